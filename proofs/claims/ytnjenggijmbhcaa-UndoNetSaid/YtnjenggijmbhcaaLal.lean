/-
  The walk of UndoAll: it returns true, given undo.Net's contract.
-/
import Derived.Test.YtnjenggijmbhcaaApp
import Derived.Test.YtnjenggijmbhcaaAwk
import Derived.Test.YtnjenggijmbhcaaHeadB
namespace Go.Proofs.Ytnjenggijmbhcaa
open Go.RowKit
theorem Has.two {w : World} {g : Nat} {t : TypeId} {u v : Value} (h : Has w g t [u, v]) : w.cell? ⟨g, 0, none⟩ = some u ∧ w.cell? ⟨g, 1, none⟩ = some v := ⟨h.cell 0, h.cell 1⟩
theorem netOk (NU : NetSays) {p : Int} {ws : List Wk} (ok : SOk p ws) (A : Option Addr) (n c : Nat) (W : World) (hr : RdW W W.heap.size A ws) (hl : ws.length = n) (hnc : n ≤ c) :
    Calls Try.prog 15 #[.agg #[.int .i64 p, .slice A n c]] W (RetSE p (netL ws) 0 W) :=
  NU p A n c ws W (by have := ok.len; omega) hnc hr hl ok.small ok.zero
theorem backs (us : List Wk) {i k : Nat} {x : Wk} (hx : us[i]? = some x) (hk : k = us.length - 1 - i) : ((us.map undoW).reverse).take (k + 1) = ((us.map undoW).reverse).take k ++ [undoW x] := by
  have hi := lt_of_get hx
  have : ((us.map undoW).reverse)[k]? = some (undoW x) := by
    rw [List.getElem?_reverse (by simp; omega), List.getElem?_map, List.length_map]
    have : us.length - 1 - k = i := by omega
    rw [this, hx]; rfl
  rw [List.take_add_one, this]; rfl
set_option maxRecDepth 100000 in
set_option maxHeartbeats 1000000 in
theorem allOf (NU : NetSays) (p q : Int) (A B : Option Addr) (n m c d : Nat) (us vs : List Wk) (w : World) (hn : n ≤ 9223372036854775807) (hm : m ≤ 9223372036854775807) (hnc : n ≤ c) (hmd : m ≤ d)
    (hu : RdW w w.heap.size A us) (hv : RdW w w.heap.size B vs) (hl : us.length = n) (hl' : vs.length = m) (hs : ∀ x ∈ us, x.word.size ≤ 9223372036854775807) (hs' : ∀ x ∈ vs, x.word.size ≤ 9223372036854775807) :
    Calls Try.prog 5 #[.agg #[.int .i64 p, .slice A n c], .agg #[.int .i64 q, .slice B m d]] w fun e w' => e = .returned (.bool true) ∧ Below w.heap.size w w' := by
  have AW := Lib.hid (awakeOf NU)
  have NU := Lib.hid NU
  have HU := Lib.hid hu; clear hu
  have HV := Lib.hid hv; clear hv
  have HL := Lib.hid hl; clear hl
  have HL' := Lib.hid hl'; clear hl'
  have HS := Lib.hid hs; clear hs
  have HS' := Lib.hid hs'; clear hs'
  have K0 : Has ((w.alloc (.cells #[.int .i64 p, .slice A n c] 24)).alloc (.cells #[.int .i64 q, .slice B m d] 24)) w.heap.size 24 [.int .i64 p, .slice A n c] := (Has.new rfl).alloc _
  have K1 : Has ((w.alloc (.cells #[.int .i64 p, .slice A n c] 24)).alloc (.cells #[.int .i64 q, .slice B m d] 24)) (w.heap.size + 1) 24 [.int .i64 q, .slice B m d] := by
    have := Has.new (w := w.alloc (.cells #[.int .i64 p, .slice A n c] 24)) (arr := #[.int .i64 q, .slice B m d]) (t := 24) (cs := [.int .i64 q, .slice B m d]) rfl
    simpa using this
  have B0 : Below w.heap.size w ((w.alloc (.cells #[.int .i64 p, .slice A n c] 24)).alloc (.cells #[.int .i64 q, .slice B m d] 24)) := by go_grown
  have C1 := Lib.hid (fun (W : World) (hb : Below w.heap.size w W) => check04 p A n c us W hn (HU.out.up hb) HL.out HS.out)
  have C2 := Lib.hid (fun (W : World) (hb : Below w.heap.size w W) => check04 q B m d vs W hm (HV.out.up hb) HL'.out HS'.out)
  by_cases h1 : schk p us = 0
  rotate_left
  · have h1' : (schk p us != 0) = true := by simpa using h1
    clear h1
    generalize schk p us = e1 at *
    go_enter Try.func5, Try.ntmps5
    go_wp2_with fail
    refine (C1.out _ (by go_grown)).mono ?_
    rintro e w1 ⟨rfl, hb1⟩
    go_wp2_with fail
    refine (AW.out _).mono ?_
    rintro e w2 ⟨rfl, hb2⟩
    go_wp2
    go_ret
    exact ⟨rfl, bvia (bvia B0 hb1) hb2⟩
  have H1 := Lib.hid h1; clear h1
  by_cases h2 : schk q vs = 0
  rotate_left
  · have h2' : (schk q vs != 0) = true := by simpa using h2
    clear h2
    generalize schk q vs = e2 at *
    go_enter Try.func5, Try.ntmps5
    go_wp2_with fail
    refine (C1.out _ (by go_grown)).mono ?_
    rintro e w1 ⟨rfl, hb1⟩
    rw [H1.out]
    obtain ⟨b0, b1⟩ := (K1.below hb1 K1.lt).two
    go_wp2_with fail
    refine (C2.out _ (bvia B0 hb1)).mono ?_
    rintro e w2 ⟨rfl, hb2⟩
    go_wp2_with fail
    refine (AW.out _).mono ?_
    rintro e w3 ⟨rfl, hb3⟩
    go_wp2
    go_ret
    exact ⟨rfl, bvia (bvia (bvia B0 hb1) hb2) hb3⟩
  have H2 := Lib.hid h2; clear h2
  by_cases h3 : 60 < (n : Int)
  · go_enter Try.func5, Try.ntmps5
    go_wp2_with fail
    refine (C1.out _ (by go_grown)).mono ?_
    rintro e w1 ⟨rfl, hb1⟩
    rw [H1.out]
    obtain ⟨b0, b1⟩ := (K1.below hb1 K1.lt).two
    go_wp2_with fail
    refine (C2.out _ (bvia B0 hb1)).mono ?_
    rintro e w2 ⟨rfl, hb2⟩
    rw [H2.out]
    obtain ⟨a0, a1⟩ := (K0.below (bvia hb1 hb2) K0.lt).two
    go_wp2_with fail
    refine (AW.out _).mono ?_
    rintro e w3 ⟨rfl, hb3⟩
    go_wp2
    go_ret
    exact ⟨rfl, bvia (bvia (bvia B0 hb1) hb2) hb3⟩
  by_cases h4 : 60 < (m : Int)
  · go_enter Try.func5, Try.ntmps5
    go_wp2_with fail
    refine (C1.out _ (by go_grown)).mono ?_
    rintro e w1 ⟨rfl, hb1⟩
    rw [H1.out]
    obtain ⟨b0, b1⟩ := (K1.below hb1 K1.lt).two
    go_wp2_with fail
    refine (C2.out _ (bvia B0 hb1)).mono ?_
    rintro e w2 ⟨rfl, hb2⟩
    rw [H2.out]
    obtain ⟨a0, a1⟩ := (K0.below (bvia hb1 hb2) K0.lt).two
    obtain ⟨b0', b1'⟩ := (K1.below (bvia hb1 hb2) K1.lt).two
    go_wp2_with fail
    refine (AW.out _).mono ?_
    rintro e w3 ⟨rfl, hb3⟩
    go_wp2
    go_ret
    exact ⟨rfl, bvia (bvia (bvia B0 hb1) hb2) hb3⟩
  have hn6 : n ≤ 60 := by omega
  have hm6 : m ≤ 60 := by omega
  have d3 : decide ((60 : Int) < n) = false := decide_eq_false h3
  have d4 : decide ((60 : Int) < m) = false := decide_eq_false h4
  clear h3 h4
  have U := Lib.hid (schk_zero H1.out)
  have V := Lib.hid (schk_zero H2.out)
  go_enter Try.func5, Try.ntmps5
  go_wp2_with fail
  refine (C1.out _ (by go_grown)).mono ?_
  rintro e w1 ⟨rfl, hb1⟩
  rw [H1.out]
  obtain ⟨b0, b1⟩ := (K1.below hb1 K1.lt).two
  go_wp2_with fail
  refine (C2.out _ (bvia B0 hb1)).mono ?_
  rintro e w2 ⟨rfl, hb2⟩
  rw [H2.out]
  have HK0 := Lib.hid (K0.below (bvia hb1 hb2) K0.lt)
  have HK1 := Lib.hid (K1.below (bvia hb1 hb2) K1.lt)
  have B2 : Below w.heap.size w w2 := bvia (bvia B0 hb1) hb2
  clear b0 b1 hb1 hb2 B0 C1 C2 K0 K1
  obtain ⟨a0, a1⟩ := HK0.out.two
  obtain ⟨b0, b1⟩ := HK1.out.two
  have q0 := HK0.out.lt
  have q1 := HK1.out.lt
  go_wp2
  have Z5 : Has (w2.alloc (.cells #[.int .i64 p, .slice none 0 0] 24)) w2.heap.size 24 [.int .i64 p, .slice none 0 0] := Has.new rfl
  clear a0 a1 b0 b1
  go_loopw [6] (fun t wr => ∃ (k : Nat) (tt : Int) (A' : Option Addr) (c' : Nat), k ≤ n ∧ t = .int .i64 tt ∧ tt = (n : Int) - 1 - k ∧ wr.ownsRow (w2.heap.size + 1) 26 3 (.slice A' k c') k (wksCells (((us.map undoW).reverse).take k)) ∧
      Has wr w2.heap.size 24 [.int .i64 p, .slice A' k c'] ∧ Below w2.heap.size w2 wr) (fun t _ => (intOf t + 1).toNat)
  case atStart => exact ⟨0, _, none, 0, Nat.zero_le _, rfl, by omega, World.ownsRow_nil _ _ _ _, Z5, by go_grown⟩
  case round =>
    clear Z5
    obtain ⟨k, tt, A', c', hk, rfl, htt, hown, hZ, hb⟩ := hrel
    obtain ⟨wo, rfl⟩ : ∃ wo : World, wo = wr := ⟨_, rfl⟩
    have HO := Lib.hid hown; clear hown
    by_cases hlt : k < n
    · obtain ⟨i, rfl⟩ := Int.eq_ofNat_of_zero_le (show 0 ≤ tt by omega)
      have hi : i < n := by omega
      obtain ⟨x, hx⟩ := get_of_lt (l := us) (k := i) (by rw [HL.out]; exact hi)
      have HN := Lib.hid (backs us hx (show k = us.length - 1 - i by rw [HL.out]; omega))
      obtain ⟨ba, o, rfl, hba, c0, c1, c2⟩ := HU.out _ x hx
      have hsx := HS.out x (mem_of_get hx)
      have HTT := Lib.hid htt
      clear hx htt
      have hW : Below w.heap.size w wo := bvia B2 hb
      have HF := Lib.hid (show ∀ W, Below (w2.heap.size + 1) wo W → W.cell? ⟨w.heap.size, 1, none⟩ = some (.slice (some ⟨ba, o, none⟩) n c) ∧ W.cell? ⟨ba, o + i * 3, none⟩ = some (.int .i64 x.kind) ∧ W.cell? ⟨ba, o + i * 3 + 1, none⟩ = some (.int .i64 x.at_) ∧ W.cell? ⟨ba, o + i * 3 + 2, none⟩ = some (.string x.word) ∧ Has W w2.heap.size 24 [.int .i64 p, .slice A' k c'] from
        fun W hb' => by
          have b1 : Below w2.heap.size w2 W := hb.trans (hb'.mono (by omega))
          have b2 : Below w.heap.size w W := bvia B2 b1
          exact ⟨(HK0.out.below b1 HK0.out.lt).cell 1, (b2.cell hba).trans c0, (b2.cell hba).trans c1, (b2.cell hba).trans c2, hZ.below hb' (by omega)⟩)
      obtain ⟨r0, r1, r2, r3, r4⟩ := HF.out _ (Below.refl _ _)
      have r5 := r4.two.2
      have z0 : w.heap.size < wo.heap.size := by have := hb.size; omega
      have z1 : ba < wo.heap.size := by have := hW.size; omega
      have z2 : w2.heap.size < wo.heap.size := hZ.lt
      have z3 : w2.heap.size + 1 ≤ wo.heap.size := z2
      clear hZ c0 c1 c2 r4
      go_wp2
      have nz0 : w2.heap.size ≠ w.heap.size := Nat.ne_of_gt q0
      have nz1 : w2.heap.size ≠ ba := by omega
      refine wp_region_noPanic ?_
      refine wp_region_B (fun b w' => w'.cell? ⟨w.heap.size, 1, none⟩ = some (.slice (some ⟨ba, o, none⟩) n c) ∧ w'.cell? ⟨ba, o + i * 3, none⟩ = some (.int .i64 x.kind) ∧ w'.cell? ⟨ba, o + i * 3 + 1, none⟩ = some (.int .i64 x.at_) ∧ w'.cell? ⟨ba, o + i * 3 + 2, none⟩ = some (.string x.word) ∧ (b = false → w'.cell? ⟨w2.heap.size, 1, none⟩ = some (.slice A' k c'))) 11 (by kernel_rfl) ?_
      have hSS : (fun b w' => w'.cell? ⟨w.heap.size, 1, none⟩ = some (.slice (some ⟨ba, o, none⟩) n c) ∧ w'.cell? ⟨ba, o + i * 3, none⟩ = some (.int .i64 x.kind) ∧ w'.cell? ⟨ba, o + i * 3 + 1, none⟩ = some (.int .i64 x.at_) ∧ w'.cell? ⟨ba, o + i * 3 + 2, none⟩ = some (.string x.word) ∧ (b = false → w'.cell? ⟨w2.heap.size, 1, none⟩ = some (.slice A' k c'))) false (wo.drew) := ⟨r0, r1, r2, r3, fun _ => r5⟩
      refine wpAnyB_take (i := 0) (oi := _) (v := ?vv1) (fun w' => w'.cell? ⟨w.heap.size, 1, none⟩ = some (.slice (some ⟨ba, o, none⟩) n c) ∧ w'.cell? ⟨ba, o + i * 3, none⟩ = some (.int .i64 x.kind) ∧ w'.cell? ⟨ba, o + i * 3 + 1, none⟩ = some (.int .i64 x.at_) ∧ w'.cell? ⟨ba, o + i * 3 + 2, none⟩ = some (.string x.word)) rfl (by kernel_rfl) (by kernel_rfl) (by kernel_rfl) (by kernel_rfl) (by rfl) (fun _ h => ⟨h.1, h.2.1, h.2.2.1, h.2.2.2.1⟩) (.inl fun _ h => ⟨h.1, h.2.1, h.2.2.1, h.2.2.2.1⟩) (fun _ _ _ h => h) (.inl ⟨by rfl, ?hy1⟩) hSS ?_
      case hy1 =>
        intro w' hSw
        try dsimp only at hSw
        go_simp
        all_goals with_reducible rfl
      try simp only [Act.put, List.setIfInBounds_toArray]
      refine wpAnyB_take (i := 1) (oi := _) (v := ?vv2) (fun w' => w'.cell? ⟨w.heap.size, 1, none⟩ = some (.slice (some ⟨ba, o, none⟩) n c) ∧ w'.cell? ⟨ba, o + i * 3, none⟩ = some (.int .i64 x.kind) ∧ w'.cell? ⟨ba, o + i * 3 + 1, none⟩ = some (.int .i64 x.at_) ∧ w'.cell? ⟨ba, o + i * 3 + 2, none⟩ = some (.string x.word) ∧ w'.cell? ⟨w2.heap.size, 1, none⟩ = some (.slice A' k c')) rfl (by kernel_rfl) (by kernel_rfl) (by kernel_rfl) (by kernel_rfl) (by rfl) (fun _ h => ⟨h.1, h.2.1, h.2.2.1, h.2.2.2.1, h.2.2.2.2 rfl⟩) (.inr (by kernel_rfl)) (fun _ _ _ h => h) (.inl ⟨by rfl, ?hy2⟩) hSS ?_
      case hy2 =>
        intro w' hSw
        try dsimp only at hSw
        go_simp
        all_goals with_reducible rfl
      try simp only [Act.put]
      refine wpAnyB_take (i := 2) (oi := _) (v := ?vv3) (fun w' => w'.cell? ⟨w.heap.size, 1, none⟩ = some (.slice (some ⟨ba, o, none⟩) n c) ∧ w'.cell? ⟨ba, o + i * 3, none⟩ = some (.int .i64 x.kind) ∧ w'.cell? ⟨ba, o + i * 3 + 1, none⟩ = some (.int .i64 x.at_) ∧ w'.cell? ⟨ba, o + i * 3 + 2, none⟩ = some (.string x.word)) rfl (by kernel_rfl) (by kernel_rfl) (by kernel_rfl) (by kernel_rfl) (by rfl) (fun _ h => ⟨h.1, h.2.1, h.2.2.1, h.2.2.2.1⟩) (.inl fun _ h => ⟨h.1, h.2.1, h.2.2.1, h.2.2.2.1⟩) (fun _ _ _ h => h) (.inl ⟨by rfl, ?hy3⟩) hSS ?_
      case hy3 =>
        intro w' hSw
        try dsimp only at hSw
        go_simp
        all_goals with_reducible rfl
      try simp only [Act.put]
      refine wpAnyB_take (i := 3) (oi := _) (v := ?vv4) (fun w' => w'.cell? ⟨w.heap.size, 1, none⟩ = some (.slice (some ⟨ba, o, none⟩) n c) ∧ w'.cell? ⟨ba, o + i * 3, none⟩ = some (.int .i64 x.kind) ∧ w'.cell? ⟨ba, o + i * 3 + 1, none⟩ = some (.int .i64 x.at_) ∧ w'.cell? ⟨ba, o + i * 3 + 2, none⟩ = some (.string x.word)) rfl (by kernel_rfl) (by kernel_rfl) (by kernel_rfl) (by kernel_rfl) (by rfl) (fun _ h => ⟨h.1, h.2.1, h.2.2.1, h.2.2.2.1⟩) (.inl fun _ h => ⟨h.1, h.2.1, h.2.2.1, h.2.2.2.1⟩) (fun _ _ _ h => h) (.inl ⟨by rfl, ?hy4⟩) hSS ?_
      case hy4 =>
        intro w' hSw
        try dsimp only at hSw
        go_simp
        all_goals with_reducible rfl
      try simp only [Act.put]
      refine wpAnyB_take (i := 4) (oi := _) (v := ?vv5) (fun w' => w'.cell? ⟨w.heap.size, 1, none⟩ = some (.slice (some ⟨ba, o, none⟩) n c) ∧ w'.cell? ⟨ba, o + i * 3, none⟩ = some (.int .i64 x.kind) ∧ w'.cell? ⟨ba, o + i * 3 + 1, none⟩ = some (.int .i64 x.at_) ∧ w'.cell? ⟨ba, o + i * 3 + 2, none⟩ = some (.string x.word)) rfl (by kernel_rfl) (by kernel_rfl) (by kernel_rfl) (by kernel_rfl) (by rfl) (fun _ h => ⟨h.1, h.2.1, h.2.2.1, h.2.2.2.1⟩) (.inl fun _ h => ⟨h.1, h.2.1, h.2.2.1, h.2.2.2.1⟩) (fun _ _ _ h => h) (.inl ⟨by rfl, ?hy5⟩) hSS ?_
      case hy5 =>
        intro w' hSw
        try dsimp only at hSw
        go_simp
        all_goals with_reducible rfl
      try simp only [Act.put]
      refine wpAnyB_take (i := 5) (oi := _) (v := ?vv6) (fun w' => w'.cell? ⟨w.heap.size, 1, none⟩ = some (.slice (some ⟨ba, o, none⟩) n c) ∧ w'.cell? ⟨ba, o + i * 3, none⟩ = some (.int .i64 x.kind) ∧ w'.cell? ⟨ba, o + i * 3 + 1, none⟩ = some (.int .i64 x.at_) ∧ w'.cell? ⟨ba, o + i * 3 + 2, none⟩ = some (.string x.word)) rfl (by kernel_rfl) (by kernel_rfl) (by kernel_rfl) (by kernel_rfl) (by rfl) (fun _ h => ⟨h.1, h.2.1, h.2.2.1, h.2.2.2.1⟩) (.inl fun _ h => ⟨h.1, h.2.1, h.2.2.1, h.2.2.2.1⟩) (fun _ _ _ h => h) (.inl ⟨by rfl, ?hy6⟩) hSS ?_
      case hy6 =>
        intro w' hSw
        try dsimp only at hSw
        go_simp
        all_goals with_reducible rfl
      try simp only [Act.put]
      refine wpAnyB_take (i := 6) (oi := _) (v := ?vv7) (fun w' => w'.cell? ⟨w.heap.size, 1, none⟩ = some (.slice (some ⟨ba, o, none⟩) n c) ∧ w'.cell? ⟨ba, o + i * 3, none⟩ = some (.int .i64 x.kind) ∧ w'.cell? ⟨ba, o + i * 3 + 1, none⟩ = some (.int .i64 x.at_) ∧ w'.cell? ⟨ba, o + i * 3 + 2, none⟩ = some (.string x.word)) rfl (by kernel_rfl) (by kernel_rfl) (by kernel_rfl) (by kernel_rfl) (by rfl) (fun _ h => ⟨h.1, h.2.1, h.2.2.1, h.2.2.2.1⟩) (.inl fun _ h => ⟨h.1, h.2.1, h.2.2.1, h.2.2.2.1⟩) (fun _ _ _ h => h) (.inl ⟨by rfl, ?hy7⟩) hSS ?_
      case hy7 =>
        intro w' hSw
        try dsimp only at hSw
        go_simp
        all_goals with_reducible rfl
      try simp only [Act.put]
      refine wpAnyB_one (i := 7) false rfl (by kernel_rfl) (by kernel_rfl) ?_
      intro KK hKK
      go_simp
      go_at_call 21
      refine (undoing28 x.kind x.at_ x.word _ hsx).mono ?_
      rintro e w3 ⟨rfl, hb3⟩
      have hB3 := (bvia (show Below wo.heap.size wo wo.drew by go_grown) hb3)
      obtain ⟨t0, t1, t2, t3, hh3⟩ := HF.out _ (hB3.mono z3)
      have hz3 := hB3.size
      refine hKK.out _ _ ⟨t0, t1, t2, t3, fun _ => hh3.two.2⟩ ?_
      clear hKK KK
      try simp only [Act.put, List.setIfInBounds_toArray, List.set_cons_zero, List.set_cons_succ]
      refine wpAnyB_one (i := 8) false rfl (by kernel_rfl) (by kernel_rfl) ?_
      intro KK hKK
      go_simp
      have hB4 : Below wo.heap.size wo (w3.alloc (.cells #[.int .i64 x.kind, .int .i64 x.at_, .string (invW x.word)] 26)) := bvia hB3 (by go_grown)
      obtain ⟨t0', t1', t2', t3', hh4⟩ := HF.out _ (hB4.mono z3)
      refine hKK.out _ _ ⟨t0', t1', t2', t3', fun _ => hh4.two.2⟩ ?_
      clear hKK KK
      try simp only [Act.put, List.setIfInBounds_toArray, List.set_cons_zero, List.set_cons_succ]
      refine wpAnyB_one (i := 9) false rfl (by kernel_rfl) (by kernel_rfl) ?_
      intro KK hKK
      refine step_appW rfl (.tmp 52) (.tmp 59) rfl (w2.heap.size + 1) (.slice A' k c') k _ rfl (own_below HO.out hB4) (some ⟨w3.heap.size, 0, none⟩) 1 1 [undoW x] rfl (rdW_one w3 x.kind x.at_ (invW x.word) 26) rfl (by omega) (by have := hB4.size; omega) ?_
      intro A5 c5 w5 hown5 hgrow5
      have hB5 : Below (w2.heap.size + 1) wo w5 := (hB4.mono z3).grown hgrow5 (by have := hB4.size; omega) (fun g hg => (HO.out.lt g hg).1)
      obtain ⟨t0'', t1'', t2'', t3'', hh5⟩ := HF.out _ hB5
      have hh5b := hh5.two.2
      refine hKK.out _ _ ⟨t0'', t1'', t2'', t3'', fun _ => hh5b⟩ ?_
      clear hKK KK
      try simp only [Act.put, List.setIfInBounds_toArray]
      refine wpAnyB_take (i := 10) (oi := _) (v := ?vv8) (fun w' => w'.cell? ⟨w.heap.size, 1, none⟩ = some (.slice (some ⟨ba, o, none⟩) n c) ∧ w'.cell? ⟨ba, o + i * 3, none⟩ = some (.int .i64 x.kind) ∧ w'.cell? ⟨ba, o + i * 3 + 1, none⟩ = some (.int .i64 x.at_) ∧ w'.cell? ⟨ba, o + i * 3 + 2, none⟩ = some (.string x.word)) rfl (by kernel_rfl) (by kernel_rfl) (by kernel_rfl) (by kernel_rfl) (by rfl) (fun _ h => ⟨h.1, h.2.1, h.2.2.1, h.2.2.2.1⟩) (.inl fun _ h => ⟨h.1, h.2.1, h.2.2.1, h.2.2.2.1⟩) (fun _ _ _ h => h) (.inl ⟨by rfl, ?hy8⟩) ⟨t0'', t1'', t2'', t3'', fun _ => hh5b⟩ ?_
      case hy8 =>
        intro w' hSw
        try dsimp only at hSw
        go_simp
        all_goals with_reducible rfl
      try simp only [Act.put]
      refine wpAnyB_one (i := 11) true rfl (by kernel_rfl) (by kernel_rfl) ?_
      intro KK hKK
      have y0 := hh5.free 1
      have y1 := hh5.lt
      go_simp
      refine hKK.out _ _ ⟨(World.cell?_setCell_far _ _ _ _ nz0).trans t0'', (World.cell?_setCell_far _ _ _ _ nz1).trans t1'', (World.cell?_setCell_far _ _ _ _ nz1).trans t2'', (World.cell?_setCell_far _ _ _ _ nz1).trans t3'', fun hh => by cases hh⟩ ?_
      clear hKK KK
      try simp only [Act.put, List.setIfInBounds_toArray, List.set_cons_zero, List.set_cons_succ]
      refine wpAnyB_done (by kernel_rfl) (NoPanic.normal ?_) _
      go_wp2
      go_roundw
      case rel =>
        rw [← HN.out] at hown5
        exact ⟨k + 1, (i : Int) - 1, A5, c5, by omega, by go_num, by have := HTT.out; omega, ownsRow_setCell_below hown5 (by simp) _, hh5.set 1 _, (hb.trans (hB5.mono (by omega))).setCell (by simp) _⟩
      case measure => first | (simp [intOf]; done) | (simp [intOf]; omega)
    · obtain rfl : k = n := by omega
      have BK := Lib.hid (show ((us.map undoW).reverse).take k = (us.map undoW).reverse from List.take_of_length_le (by rw [List.length_reverse, List.length_map, HL.out]; exact Nat.le_refl _))
      rw [BK.out] at HO
      have ok1 := Lib.hid (show SOk p (us ++ (us.map undoW).reverse) from U.out.app (U.out.undo.sub (by rw [List.length_reverse, List.length_map, HL.out]; omega) (fun x hx => by simpa using hx)) (by rw [List.length_append, List.length_reverse, List.length_map, HL.out]; omega))
      have hW : Below w.heap.size w wo := bvia B2 hb
      have htt' : tt < 0 := by omega
      obtain ⟨a0, a1⟩ := (HK0.out.below hb HK0.out.lt).two
      obtain ⟨e0, e1⟩ := hZ.two
      clear htt
      go_wp2_with fail
      refine (after28 p p _ _ _ _ _ _ us (us.map undoW).reverse _ (HU.out.up hW) (own_rdW HO.out) HL.out (by rw [List.length_reverse, List.length_map, HL.out]) (by omega) (by omega)).mono ?_
      rintro e w5 ⟨A5, n5, c5, rfl, r5, l5, m5, o5, hb5⟩
      go_wp2_with fail
      refine (netOk NU.out ok1.out A5 n5 c5 w5 r5 l5 m5).mono ?_
      rintro e w6 ⟨A6, n6, c6, rfl, r6, l6, m6, o6, hb6⟩
      rw [net_none us U.out.back] at l6
      obtain rfl : 0 = n6 := l6
      have HQ := Lib.hid (show ∀ W, Below wo.heap.size wo W → W.cell? ⟨w.heap.size, 0, none⟩ = some (.int .i64 p) ∧ W.cell? ⟨w.heap.size, 1, none⟩ = some (.slice A k c) ∧ W.cell? ⟨w.heap.size + 1, 0, none⟩ = some (.int .i64 q) ∧ W.cell? ⟨w.heap.size + 1, 1, none⟩ = some (.slice B m d) from
        fun W hb' => by
          have b1 := bvia hb hb'
          exact ⟨(HK0.out.below b1 HK0.out.lt).cell 0, (HK0.out.below b1 HK0.out.lt).cell 1, (HK1.out.below b1 HK1.out.lt).cell 0, (HK1.out.below b1 HK1.out.lt).cell 1⟩)
      have b6 : Below wo.heap.size wo (w6.alloc (.cells #[.int .i64 p, .slice A6 0 c6] 24)) := bvia (bvia hb5 hb6) (by go_grown)
      have HZ := Lib.hid (show ∀ W, Below wo.heap.size wo W → w.heap.size + 1 < W.heap.size from fun W hb' => by have := hb'.size; have := hb.size; omega)
      clear hb5 hb6 r5 l5 m5 o5 r6 m6 o6 hb a0 a1 e0 e1 hZ
      obtain ⟨a0, a1, b0, b1⟩ := HQ.out _ b6
      by_cases hpq : p = q
      rotate_left
      · have hpq' : (p != q) = true := by simpa using hpq
        have hpq2 : (p == q) = false := by simpa using hpq
        go_wp2_with fail
        refine (AW.out _).mono ?_
        rintro e w7 ⟨rfl, hb7⟩
        go_wp2
        go_ret
        exact ⟨rfl, bvia (bvia hW b6) hb7⟩
      · subst hpq
        have ok2 := Lib.hid (show SOk p (us ++ vs) from U.out.app V.out (by rw [List.length_append, HL.out, HL'.out]; omega))
        go_wp2_with fail
        refine (netOk NU.out U.out A k c _ (HU.out.up (bvia hW b6)) HL.out hnc).mono ?_
        rintro e w7 ⟨A7, n7, c7, rfl, r7, l7, m7, o7, hb7⟩
        have b7 : Below wo.heap.size wo (w7.alloc (.cells #[.int .i64 p, .slice A7 n7 c7] 24)) := bvia (bvia b6 hb7) (by go_grown)
        have Y7 : Has (w7.alloc (.cells #[.int .i64 p, .slice A7 n7 c7] 24)) w7.heap.size 24 [.int .i64 p, .slice A7 n7 c7] := Has.new rfl
        have R7 := Lib.hid (r7.up (show Below w7.heap.size w7 (w7.alloc (.cells #[.int .i64 p, .slice A7 n7 c7] 24)) by go_grown)); clear r7 hb7 a0 a1 b0 b1
        obtain ⟨a0, a1, b0, b1⟩ := HQ.out _ b7
        go_wp2_with fail
        refine (netOk NU.out V.out B m d _ (HV.out.up (bvia hW b7)) HL'.out hmd).mono ?_
        rintro e w8 ⟨A8, n8, c8, rfl, r8, l8, m8, o8, hb8⟩
        have b8 : Below wo.heap.size wo (w8.alloc (.cells #[.int .i64 p, .slice A8 n8 c8] 24)) := bvia (bvia b7 hb8) (by go_grown)
        have u78 : Below (w7.alloc (.cells #[.int .i64 p, .slice A7 n7 c7] 24)).heap.size (w7.alloc (.cells #[.int .i64 p, .slice A7 n7 c7] 24)) (w8.alloc (.cells #[.int .i64 p, .slice A8 n8 c8] 24)) := bvia hb8 (by go_grown)
        have Y8 : Has (w8.alloc (.cells #[.int .i64 p, .slice A8 n8 c8] 24)) w8.heap.size 24 [.int .i64 p, .slice A8 n8 c8] := Has.new rfl
        have R8 := Lib.hid (r8.up (show Below w8.heap.size w8 (w8.alloc (.cells #[.int .i64 p, .slice A8 n8 c8] 24)) by go_grown)); clear r8 hb8 a0 a1 b0 b1
        obtain ⟨a0, a1, b0, b1⟩ := HQ.out _ b8
        go_wp2_with fail
        refine (after28 p p A B k m c d us vs _ (HU.out.up (bvia hW b8)) (HV.out.up (bvia hW b8)) HL.out HL'.out (by omega) (by omega)).mono ?_
        rintro e w9 ⟨A9, n9, c9, rfl, r9, l9, m9, o9, hb9⟩
        go_wp2_with fail
        refine (netOk NU.out ok2.out A9 n9 c9 w9 r9 l9 m9).mono ?_
        rintro e w10 ⟨A10, n10, c10, rfl, r10, l10, m10, o10, hb10⟩
        have b10 : Below wo.heap.size wo (w10.alloc (.cells #[.int .i64 p, .slice A10 n10 c10] 24)) := bvia (bvia (bvia b8 hb9) hb10) (by go_grown)
        have u810 : Below (w8.alloc (.cells #[.int .i64 p, .slice A8 n8 c8] 24)).heap.size (w8.alloc (.cells #[.int .i64 p, .slice A8 n8 c8] 24)) (w10.alloc (.cells #[.int .i64 p, .slice A10 n10 c10] 24)) := bvia (bvia hb9 hb10) (by go_grown)
        have Y10 : Has (w10.alloc (.cells #[.int .i64 p, .slice A10 n10 c10] 24)) w10.heap.size 24 [.int .i64 p, .slice A10 n10 c10] := Has.new rfl
        have R10 := Lib.hid (r10.up (show Below w10.heap.size w10 (w10.alloc (.cells #[.int .i64 p, .slice A10 n10 c10] 24)) by go_grown)); clear r9 r10 hb9 hb10 a0 a1 b0 b1 l9 m9 o9
        obtain ⟨a0, a1, b0, b1⟩ := HQ.out _ b10
        have Y7' := (Y7.below (bvia u78 u810) Y7.lt)
        have Y8' := (Y8.below u810 Y8.lt)
        have R7' := Lib.hid (R7.out.up (bvia u78 u810))
        have R8' := Lib.hid (R8.out.up u810)
        obtain ⟨x0, x1⟩ := Y7'.two
        have zb0 := HZ.out _ b10
        have zx0 := Y7'.lt
        go_wp2_with fail
        refine (after28 p p A7 B n7 m c7 d (netL us) vs _ R7'.out (HV.out.up (bvia hW b10)) l7 HL'.out (by have := netL_len us; rw [HL.out] at this; omega) (by omega)).mono ?_
        rintro e w11 ⟨A11, n11, c11, rfl, r11, l11, m11, o11, hb11⟩
        have ok3 := Lib.hid (show SOk p (netL us ++ vs) from U.out.net.app V.out (by have := netL_len us; rw [HL.out] at this; rw [List.length_append, HL'.out]; omega))
        go_wp2_with fail
        refine (netOk NU.out ok3.out A11 n11 c11 w11 r11 l11 m11).mono ?_
        rintro e w12 ⟨A12, n12, c12, rfl, r12, l12, m12, o12, hb12⟩
        rw [net_left] at r12 l12
        have b12 : Below wo.heap.size wo (w12.alloc (.cells #[.int .i64 p, .slice A12 n12 c12] 24)) := bvia (bvia (bvia b10 hb11) hb12) (by go_grown)
        have u1012 : Below (w10.alloc (.cells #[.int .i64 p, .slice A10 n10 c10] 24)).heap.size (w10.alloc (.cells #[.int .i64 p, .slice A10 n10 c10] 24)) (w12.alloc (.cells #[.int .i64 p, .slice A12 n12 c12] 24)) := bvia (bvia hb11 hb12) (by go_grown)
        have Y12 : Has (w12.alloc (.cells #[.int .i64 p, .slice A12 n12 c12] 24)) w12.heap.size 24 [.int .i64 p, .slice A12 n12 c12] := Has.new rfl
        have R12 := Lib.hid (r12.up (show Below w12.heap.size w12 (w12.alloc (.cells #[.int .i64 p, .slice A12 n12 c12] 24)) by go_grown)); clear r11 r12 hb11 hb12 a0 a1 b0 b1 l11 m11 o11 x0 x1 zb0 zx0
        obtain ⟨a0, a1, b0, b1⟩ := HQ.out _ b12
        have Y8'' := (Y8'.below u1012 Y8'.lt)
        have R8'' := Lib.hid (R8'.out.up u1012)
        have zb0 := HZ.out _ b12
        have zx0 := Y8''.lt
        obtain ⟨y0, y1⟩ := Y8''.two
        go_wp2_with fail
        refine (after28 p p A A8 k n8 c c8 us (netL vs) _ (HU.out.up (bvia hW b12)) R8''.out HL.out l8 (by omega) (by have := netL_len vs; rw [HL'.out] at this; omega)).mono ?_
        rintro e w13 ⟨A13, n13, c13, rfl, r13, l13, m13, o13, hb13⟩
        have ok4 := Lib.hid (show SOk p (us ++ netL vs) from U.out.app V.out.net (by have := netL_len vs; rw [HL'.out] at this; rw [List.length_append, HL.out]; omega))
        go_wp2_with fail
        refine (netOk NU.out ok4.out A13 n13 c13 w13 r13 l13 m13).mono ?_
        rintro e w14 ⟨A14, n14, c14, rfl, r14, l14, m14, o14, hb14⟩
        have b14 : Below wo.heap.size wo (w14.alloc (.cells #[.int .i64 p, .slice A14 n14 c14] 24)) := bvia (bvia (bvia b12 hb13) hb14) (by go_grown)
        have u1214 : Below (w12.alloc (.cells #[.int .i64 p, .slice A12 n12 c12] 24)).heap.size (w12.alloc (.cells #[.int .i64 p, .slice A12 n12 c12] 24)) (w14.alloc (.cells #[.int .i64 p, .slice A14 n14 c14] 24)) := bvia (bvia hb13 hb14) (by go_grown)
        have Y14 : Has (w14.alloc (.cells #[.int .i64 p, .slice A14 n14 c14] 24)) w14.heap.size 24 [.int .i64 p, .slice A14 n14 c14] := Has.new rfl
        have R14 := Lib.hid (r14.up (show Below w14.heap.size w14 (w14.alloc (.cells #[.int .i64 p, .slice A14 n14 c14] 24)) by go_grown)); clear r13 r14 hb13 hb14 a0 a1 b0 b1 l13 m13 o13 y0 y1 zb0 zx0
        have Y10' := (Y10.below (bvia u1012 u1214) Y10.lt)
        have Y12' := (Y12.below u1214 Y12.lt)
        have R10' := Lib.hid (R10.out.up (bvia u1012 u1214))
        have R12' := Lib.hid (R12.out.up u1214)
        obtain ⟨s0, s1⟩ := Y10'.two
        obtain ⟨t0, t1⟩ := Y12'.two
        have zs := Y10'.lt
        have zt := Y12'.lt
        go_wp2_with fail
        refine (same05 p A10 A12 n10 n12 c10 c12 (netL (us ++ vs)) (netL (us ++ vs)) _ R10'.out R12'.out l10 l12 ok2.out.net ok2.out.net (Alike.refl _)).mono ?_
        rintro e w15 ⟨rfl, hb15⟩
        have Y10'' := (Y10'.below hb15 Y10'.lt)
        have Y14'' := (Y14.below hb15 Y14.lt)
        clear s0 s1 t0 t1 zs zt
        obtain ⟨s0, s1⟩ := Y10''.two
        obtain ⟨t0, t1⟩ := Y14''.two
        have zs := Y10''.lt
        have zt := Y14''.lt
        go_wp2_with fail
        refine (same05 p A10 A14 n10 n14 c10 c14 (netL (us ++ vs)) (netL (us ++ netL vs)) _ (R10'.out.up hb15) (R14.out.up hb15) l10 l14 ok2.out.net ok4.out.net (net_right us vs V.out.back).symm).mono ?_
        rintro e w16 ⟨rfl, hb16⟩
        go_wp2_with fail
        refine (AW.out _).mono ?_
        rintro e w17 ⟨rfl, hb17⟩
        go_wp2
        go_ret
        exact ⟨rfl, bvia (bvia (bvia (bvia hW b14) hb15) hb16) hb17⟩
end Go.Proofs.Ytnjenggijmbhcaa
