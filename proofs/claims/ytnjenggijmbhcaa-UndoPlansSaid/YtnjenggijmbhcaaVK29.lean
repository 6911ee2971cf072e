/-
  The walk of compile.Quick at valid sheets: its steps are the quick instructions.
-/
import Derived.Test.YtnjenggijmbhcaaVK28
namespace Go.Proofs.Ytnjenggijmbhcaa
open Go.RowKit
theorem qbld_start (ws : List Wk) (w1 : World) : QBld ws w1.heap.size w1 0 (fun _ => .slice none 0 0) ((w1.alloc (.cells #[.slice none 0 0, .slice none 0 0, .slice none 0 0, .slice none 0 0, .slice none 0 0, .slice none 0 0, .slice none 0 0, .slice none 0 0, .slice none 0 0, .slice none 0 0, .slice none 0 0, .slice none 0 0, .slice none 0 0, .slice none 0 0, .slice none 0 0, .slice none 0 0, .slice none 0 0, .slice none 0 0, .slice none 0 0, .slice none 0 0, .slice none 0 0, .slice none 0 0, .slice none 0 0, .slice none 0 0] 136)).alloc (.cells #[.pointer (some ⟨w1.heap.size, 0, none⟩)] 135)) where
  has := (Has.new (by rfl)).alloc _
  rows := fun q _ => World.ownsRow_nil _ _ _ _
  apart := fun q q' _ _ _ g h => by simp [Value.ownBlock] at h
  rpc := by
    have h := Has.new (w := w1.alloc (.cells #[.slice none 0 0, .slice none 0 0, .slice none 0 0, .slice none 0 0, .slice none 0 0, .slice none 0 0, .slice none 0 0, .slice none 0 0, .slice none 0 0, .slice none 0 0, .slice none 0 0, .slice none 0 0, .slice none 0 0, .slice none 0 0, .slice none 0 0, .slice none 0 0, .slice none 0 0, .slice none 0 0, .slice none 0 0, .slice none 0 0, .slice none 0 0, .slice none 0 0, .slice none 0 0, .slice none 0 0] 136)) (arr := #[.pointer (some ⟨w1.heap.size, 0, none⟩)]) (t := 135) (cs := [.pointer (some ⟨w1.heap.size, 0, none⟩)]) rfl
    rw [World.size_alloc] at h
    exact h
  old := ((Below.refl _ _).alloc (Nat.le_refl _) _).alloc (by simp) _
theorem spB_iff {p s : Int} (h : spB p s = true) : 2 ≤ s ∧ s ≤ 8 ∧ s ≤ p := of_decide_eq_true h
theorem qckE_zero {p s : Int} {ws : List Wk} (h : qckE p s ws = 0) : schk p ws = 0 ∧ spB p s = true := by
  unfold qckE at h
  split at h
  · rename_i h1
    refine ⟨h1, ?_⟩
    cases hs : spB p s with
    | true => rfl
    | false => rw [hs] at h; simp at h
  · rename_i h1; exact absurd h h1
set_option maxRecDepth 100000 in
set_option maxHeartbeats 20000000 in
theorem quickY (p s : Nat) (A : Option Addr) (n c : Nat) (ws : List Wk) (w : World) (hn : n ≤ 9223372036854775807) (hw : RdW w w.heap.size A ws) (hl : ws.length = n)
    (hs : ∀ x ∈ ws, x.word.size ≤ 9223372036854775807) (h0 : qckE (p : Int) (s : Int) ws = 0) :
    Calls Try.prog 76 #[.agg #[.int .i64 (p : Int), .slice A n c], .int .i64 (s : Int)] w (RetQE (quickP p s ws) 0 w) := by
  obtain ⟨z1, z2⟩ := qckE_zero h0
  have ok := schk_zero z1
  obtain ⟨hs2, hs8, hsp⟩ := spB_iff z2
  have hp24 : p ≤ 24 := by have := ok.le; omega
  have hn4 : n ≤ 400 := by have := ok.len; omega
  have HR := Lib.hid (show ∀ x ∈ ws, 0 ≤ x.at_ ∧ x.at_ ≤ (p : Int) - 2 from fun x hx => by
    obtain ⟨_, h1, h2, _⟩ := bad_at (ok.good x hx)
    exact ⟨h1, h2⟩)
  have HW := Lib.hid hw
  have HL := Lib.hid hl
  have CC := Lib.hid (fun W sb (hb : Below w.heap.size w W) hS => qCheck (p : Int) (s : Int) A n c sb ws W hn (HW.out.up hb) hl hs hS)
  have HPS := Lib.hid (show 2 ≤ s ∧ s ≤ 8 ∧ s ≤ p ∧ p ≤ 24 from ⟨by omega, by omega, by omega, hp24⟩)
  rw [h0] at CC
  clear hw hn hl hs h0 z1 z2 ok hs2 hs8 hsp hp24
  have HS : Has ((w.alloc (.cells #[.int .i64 (p : Int), .slice A n c] 24)).alloc (.cells #[.int .i64 (s : Int)] 3)) w.heap.size 24 [.int .i64 (p : Int), .slice A n c] := (Has.new rfl).alloc _
  have HT : Has ((w.alloc (.cells #[.int .i64 (p : Int), .slice A n c] 24)).alloc (.cells #[.int .i64 (s : Int)] 3)) (w.heap.size + 1) 3 [.int .i64 (s : Int)] := by
    have h := Has.new (w := w.alloc (.cells #[.int .i64 (p : Int), .slice A n c] 24)) (arr := #[.int .i64 (s : Int)]) (t := 3) (cs := [.int .i64 (s : Int)]) rfl
    rw [World.size_alloc] at h
    exact h
  have B0 : Below w.heap.size w ((w.alloc (.cells #[.int .i64 (p : Int), .slice A n c] 24)).alloc (.cells #[.int .i64 (s : Int)] 3)) := by go_grown
  have C1 := Lib.hid (CC.out _ _ B0 HS)
  have GS0 := Lib.hid HS
  have GT0 := Lib.hid HT
  have HB0 := Lib.hid B0
  clear HS HT B0 CC
  go_enter Try.func76, Try.ntmps76
  go_wp2_with fail
  refine C1.out.mono ?_
  rintro e w1 ⟨rfl, hb1⟩
  have GS := Lib.hid (GS0.out.below hb1 GS0.out.lt)
  have GT := Lib.hid (GT0.out.below hb1 GT0.out.lt)
  have HB := Lib.hid (bvia HB0.out hb1)
  clear hb1 GS0 GT0 HB0 C1
  have hst := qbld_start ws w1
  have hTs : w.heap.size + 1 < w1.heap.size := GT.out.lt
  have hTs0 : w.heap.size < w1.heap.size := GS.out.lt
  have d1 : w1.cell? ⟨w.heap.size, 1, none⟩ = some (.slice A n c) := GS.out.cell 1
  go_wp2
  obtain ⟨T, hT⟩ : ∃ T, T = w1.heap.size := ⟨_, rfl⟩
  rw [← hT] at hst hTs hTs0
  simp only [← hT]
  have HTT := Lib.hid hT
  clear hT d1
  go_loopw [25] (fun iv wr => ∃ (i : Nat) (V : Nat → Value), i ≤ n ∧ iv = .int .i64 (i : Int) ∧ Hid (QBld ws T w1 i V wr)) (fun iv _ => n - (intOf iv).toNat)
  case atStart => exact ⟨0, _, Nat.zero_le _, rfl, Lib.hid hst⟩
  case round =>
    clear hst
    obtain ⟨i, V, hi, rfl, I⟩ := hrel
    obtain ⟨wo, rfl⟩ : ∃ wo : World, wo = wr := ⟨_, rfl⟩
    by_cases hlt : i < n
    · have ji : (i : Int) < (n : Int) := by omega
      have i0 : (0 : Int) ≤ (i : Int) := by omega
      have ii : IntKind.i64.wrap ((i : Int) + 1) = (i : Int) + 1 := IntWalk.i64_in _ (by omega)
      have HI1 : Hid (i + 1 ≤ n) := by show _ ≤ _; omega
      have HMS : Hid (n - (intOf (.int .i64 ((i : Int) + 1))).toNat < n - (intOf (.int .i64 (i : Int))).toNat) := by show _ < _; simp only [intOf]; omega
      obtain ⟨⟨xk, xa, xw⟩, hx⟩ := get_of_lt (l := ws) (k := i) (by rw [HL.out]; exact hlt)
      obtain ⟨ha0, ha1⟩ := HR.out _ (List.mem_of_getElem? hx)
      simp only at ha0 ha1
      obtain ⟨a, rfl⟩ := Int.eq_ofNat_of_zero_le ha0
      have ha24 : a + 1 < 24 := by have := HPS.out; omega
      have HWA : Hid (wat ws i = (a : Int)) := wat_get hx
      have hzw : w.heap.size ≤ w1.heap.size := HB.out.size
      obtain ⟨bx, ox, rfl, hbx, x0, x1, x2⟩ := (HW.out.up (bvia HB.out (I.out.old.mono (Nat.le_of_eq HTT.out.symm)))) i _ hx
      simp only at x0 x1 x2
      have hil : i ≤ 400 := by omega
      clear hi hlt hx ha0 ha1
      have hTh : T < wo.heap.size := I.out.has.lt
      have hTh1 : T + 1 < wo.heap.size := I.out.rpc.lt
      go_upto_region 8 with (fail)
      have P : Hid (PushQ (qTo ws i) T w1 i V a wo.heap.size none none (wo.alloc (.cells #[.int .i64 xk, .int .i64 (a : Int), .string xw] 26))) := {
        has := I.out.has.alloc _
        rows := fun q hq _ _ => (I.out.rows q hq).alloc _
        row0 := fun v hv => by cases hv
        row1 := fun v hv => by cases hv
        two := fun v0 v1 hv => by cases hv
        rpc := I.out.rpc.alloc _
        old := I.out.old.alloc (Nat.le_of_lt hTh) _
        far := fun q hq g hg => (I.out.rows q hq).lt g hg
        apart := I.out.apart
        low := hTh1
        big := by simp
        box := by go_simp }
      obtain ⟨A0, k0, hV0⟩ := own_form (I.out.rows a (by omega))
      obtain ⟨A1, k1, hV1⟩ := own_form (I.out.rows (a + 1) ha24)
      have hm0 := qTo_len ws i a
      have hm1 := qTo_len ws i (a + 1)
      obtain ⟨m0, hM0⟩ : ∃ m, m = (qTo ws i a).length := ⟨_, rfl⟩
      obtain ⟨m1, hM1⟩ : ∃ m, m = (qTo ws i (a + 1)).length := ⟨_, rfl⟩
      rw [← hM0] at hV0 hm0
      rw [← hM1] at hV1 hm1
      have HV0 := Lib.hid hV0
      have HV1 := Lib.hid hV1
      have HM0 : Hid ((qTo ws i a).length = m0) := hM0.symm
      have HM1 : Hid ((qTo ws i (a + 1)).length = m1) := hM1.symm
      have hfa : ∀ g, (Value.slice A0 m0 k0).ownBlock = some g → g < wo.heap.size := fun g hg => ((I.out.rows a (by omega)).lt g (by rw [hV0]; exact hg)).2
      have hl0' : m0 + 1 ≤ 1000000000 := by omega
      have hl1' : m1 + 1 ≤ 1000000000 := by omega
      have h8' : (8 : Nat) ≤ 100 := by omega
      have h1' : (0 : Nat) < 1 := by omega
      have p0 : (0 : Int) ≤ (a : Int) := by omega
      have p1 : (a : Int) < 24 := by omega
      have p2 : (a : Int) + 1 < 24 := by omega
      have p3 : (0 : Int) ≤ (a : Int) + 1 := by omega
      have p4 : ((a : Int) + 1).toNat = a + 1 := by omega
      have ia : IntKind.i64.wrap ((a : Int) + 1) = (a : Int) + 1 := IntWalk.i64_in _ (by omega)
      clear hM0 hM1 hV0 hV1 hm0 hm1 x0 x1 x2 hbx
      obtain ⟨hb, hhb⟩ : ∃ hb, hb = wo.heap.size := ⟨_, rfl⟩
      rw [← hhb] at P hfa hTh hTh1
      simp only [← hhb]
      generalize wo.alloc (.cells #[.int .i64 xk, .int .i64 (a : Int), .string xw] 26) = W5 at *
      clear hhb I
      refine wp_region_noPanic ?_
      refine wp_region_B (fun b w' => w'.cell? ⟨hb, 1, none⟩ = some (.int .i64 (a : Int)) ∧ w'.cell? ⟨T + 1, 0, none⟩ = some (.pointer (some ⟨T, 0, none⟩)) ∧ (b = false → w'.cell? ⟨T, a, none⟩ = some (.slice A0 m0 k0) ∧ w'.cell? ⟨T, a + 1, none⟩ = some (.slice A1 m1 k1))) 28 (by kernel_rfl) ?_
      have P6 := P.out.drew
      generalize W5.drew = W6 at *
      have hS6 : (fun b w' => w'.cell? ⟨hb, 1, none⟩ = some (.int .i64 (a : Int)) ∧ w'.cell? ⟨T + 1, 0, none⟩ = some (.pointer (some ⟨T, 0, none⟩)) ∧ (b = false → w'.cell? ⟨T, a, none⟩ = some (.slice A0 m0 k0) ∧ w'.cell? ⟨T, a + 1, none⟩ = some (.slice A1 m1 k1))) false W6 := ⟨P6.box, P6.rpc.cell 0, fun _ => ⟨(P6.at_ (Nat.lt_of_succ_lt ha24)).trans (congrArg some HV0.out), (P6.at_ ha24).trans (congrArg some HV1.out)⟩⟩
      refine wpAnyB_take (i := 0) (oi := _) (v := ?vvq1) (fun w' => w'.cell? ⟨hb, 1, none⟩ = some (.int .i64 (a : Int)) ∧ w'.cell? ⟨T + 1, 0, none⟩ = some (.pointer (some ⟨T, 0, none⟩))) rfl (by kernel_rfl) (by kernel_rfl) (by kernel_rfl) (by kernel_rfl) (by rfl) (fun _ h => ⟨h.1, h.2.1⟩) (.inl fun _ h => ⟨h.1, h.2.1⟩) (fun _ _ _ h => h) (.inl ⟨by rfl, ?hyq1⟩) hS6 ?_
      case hyq1 =>
        intro w' hSw
        try dsimp only at hSw
        go_simp
        all_goals with_reducible rfl
      try simp only [Act.put, List.setIfInBounds_toArray]
      refine wpAnyB_take (i := 1) (oi := _) (v := ?vvq2) (fun w' => w'.cell? ⟨hb, 1, none⟩ = some (.int .i64 (a : Int)) ∧ w'.cell? ⟨T + 1, 0, none⟩ = some (.pointer (some ⟨T, 0, none⟩))) rfl (by kernel_rfl) (by kernel_rfl) (by kernel_rfl) (by kernel_rfl) (by rfl) (fun _ h => ⟨h.1, h.2.1⟩) (.inl fun _ h => ⟨h.1, h.2.1⟩) (fun _ _ _ h => h) (.inl ⟨by rfl, ?hyq2⟩) hS6 ?_
      case hyq2 =>
        intro w' hSw
        try dsimp only at hSw
        go_simp
        all_goals with_reducible rfl
      try simp only [Act.put]
      refine wpAnyB_take (i := 2) (oi := _) (v := ?vvq3) (fun w' => w'.cell? ⟨hb, 1, none⟩ = some (.int .i64 (a : Int)) ∧ w'.cell? ⟨T + 1, 0, none⟩ = some (.pointer (some ⟨T, 0, none⟩))) rfl (by kernel_rfl) (by kernel_rfl) (by kernel_rfl) (by kernel_rfl) (by rfl) (fun _ h => ⟨h.1, h.2.1⟩) (.inl fun _ h => ⟨h.1, h.2.1⟩) (fun _ _ _ h => h) (.inl ⟨by rfl, ?hyq3⟩) hS6 ?_
      case hyq3 =>
        intro w' hSw
        try dsimp only at hSw
        go_simp
        all_goals with_reducible rfl
      try simp only [Act.put]
      refine wpAnyB_take (i := 3) (oi := _) (v := ?vvq4) (fun w' => w'.cell? ⟨hb, 1, none⟩ = some (.int .i64 (a : Int)) ∧ w'.cell? ⟨T + 1, 0, none⟩ = some (.pointer (some ⟨T, 0, none⟩))) rfl (by kernel_rfl) (by kernel_rfl) (by kernel_rfl) (by kernel_rfl) (by rfl) (fun _ h => ⟨h.1, h.2.1⟩) (.inl fun _ h => ⟨h.1, h.2.1⟩) (fun _ _ _ h => h) (.inl ⟨by rfl, ?hyq4⟩) hS6 ?_
      case hyq4 =>
        intro w' hSw
        try dsimp only at hSw
        go_simp
        all_goals with_reducible rfl
      try simp only [Act.put]
      refine wpAnyB_take (i := 4) (oi := _) (v := ?vvq5) (fun w' => w'.cell? ⟨hb, 1, none⟩ = some (.int .i64 (a : Int)) ∧ w'.cell? ⟨T + 1, 0, none⟩ = some (.pointer (some ⟨T, 0, none⟩))) rfl (by kernel_rfl) (by kernel_rfl) (by kernel_rfl) (by kernel_rfl) (by rfl) (fun _ h => ⟨h.1, h.2.1⟩) (.inl fun _ h => ⟨h.1, h.2.1⟩) (fun _ _ _ h => h) (.inl ⟨by rfl, ?hyq5⟩) hS6 ?_
      case hyq5 =>
        intro w' hSw
        try dsimp only at hSw
        go_simp
        all_goals with_reducible rfl
      try simp only [Act.put]
      refine wpAnyB_take (i := 5) (oi := _) (v := ?vvq6) (fun w' => w'.cell? ⟨hb, 1, none⟩ = some (.int .i64 (a : Int)) ∧ w'.cell? ⟨T + 1, 0, none⟩ = some (.pointer (some ⟨T, 0, none⟩))) rfl (by kernel_rfl) (by kernel_rfl) (by kernel_rfl) (by kernel_rfl) (by rfl) (fun _ h => ⟨h.1, h.2.1⟩) (.inl fun _ h => ⟨h.1, h.2.1⟩) (fun _ _ _ h => h) (.inl ⟨by rfl, ?hyq6⟩) hS6 ?_
      case hyq6 =>
        intro w' hSw
        try dsimp only at hSw
        go_simp
        all_goals with_reducible rfl
      try simp only [Act.put]
      refine wpAnyB_take (i := 6) (oi := _) (v := ?vvq7) (fun w' => w'.cell? ⟨hb, 1, none⟩ = some (.int .i64 (a : Int)) ∧ w'.cell? ⟨T + 1, 0, none⟩ = some (.pointer (some ⟨T, 0, none⟩))) rfl (by kernel_rfl) (by kernel_rfl) (by kernel_rfl) (by kernel_rfl) (by rfl) (fun _ h => ⟨h.1, h.2.1⟩) (.inl fun _ h => ⟨h.1, h.2.1⟩) (fun _ _ _ h => h) (.inl ⟨by rfl, ?hyq7⟩) hS6 ?_
      case hyq7 =>
        intro w' hSw
        try dsimp only at hSw
        go_simp
        all_goals with_reducible rfl
      try simp only [Act.put]
      refine wpAnyB_take (i := 7) (oi := _) (v := ?vvq8) (fun w' => w'.cell? ⟨hb, 1, none⟩ = some (.int .i64 (a : Int)) ∧ w'.cell? ⟨T + 1, 0, none⟩ = some (.pointer (some ⟨T, 0, none⟩))) rfl (by kernel_rfl) (by kernel_rfl) (by kernel_rfl) (by kernel_rfl) (by rfl) (fun _ h => ⟨h.1, h.2.1⟩) (.inl fun _ h => ⟨h.1, h.2.1⟩) (fun _ _ _ h => h) (.inl ⟨by rfl, ?hyq8⟩) hS6 ?_
      case hyq8 =>
        intro w' hSw
        try dsimp only at hSw
        go_simp
        all_goals with_reducible rfl
      try simp only [Act.put]
      refine wpAnyB_take (i := 8) (oi := _) (v := ?vvq9) (fun w' => w'.cell? ⟨hb, 1, none⟩ = some (.int .i64 (a : Int)) ∧ w'.cell? ⟨T + 1, 0, none⟩ = some (.pointer (some ⟨T, 0, none⟩))) rfl (by kernel_rfl) (by kernel_rfl) (by kernel_rfl) (by kernel_rfl) (by rfl) (fun _ h => ⟨h.1, h.2.1⟩) (.inl fun _ h => ⟨h.1, h.2.1⟩) (fun _ _ _ h => h) (.inl ⟨by rfl, ?hyq9⟩) hS6 ?_
      case hyq9 =>
        intro w' hSw
        try dsimp only at hSw
        go_simp
        all_goals with_reducible rfl
      try simp only [Act.put]
      refine wpAnyB_take (i := 9) (oi := _) (v := ?vvq10) (fun w' => w'.cell? ⟨hb, 1, none⟩ = some (.int .i64 (a : Int)) ∧ w'.cell? ⟨T + 1, 0, none⟩ = some (.pointer (some ⟨T, 0, none⟩))) rfl (by kernel_rfl) (by kernel_rfl) (by kernel_rfl) (by kernel_rfl) (by rfl) (fun _ h => ⟨h.1, h.2.1⟩) (.inl fun _ h => ⟨h.1, h.2.1⟩) (fun _ _ _ h => h) (.inl ⟨by rfl, ?hyq10⟩) hS6 ?_
      case hyq10 =>
        intro w' hSw
        try dsimp only at hSw
        go_simp
        all_goals with_reducible rfl
      try simp only [Act.put]
      refine wpAnyB_take (i := 10) (oi := _) (v := ?vvq11) (fun w' => w'.cell? ⟨hb, 1, none⟩ = some (.int .i64 (a : Int)) ∧ w'.cell? ⟨T + 1, 0, none⟩ = some (.pointer (some ⟨T, 0, none⟩))) rfl (by kernel_rfl) (by kernel_rfl) (by kernel_rfl) (by kernel_rfl) (by rfl) (fun _ h => ⟨h.1, h.2.1⟩) (.inl fun _ h => ⟨h.1, h.2.1⟩) (fun _ _ _ h => h) (.inl ⟨by rfl, ?hyq11⟩) hS6 ?_
      case hyq11 =>
        intro w' hSw
        try dsimp only at hSw
        go_simp
        all_goals with_reducible rfl
      try simp only [Act.put]
      refine wpAnyB_take (i := 11) (oi := _) (v := ?vvq12) (fun w' => w'.cell? ⟨hb, 1, none⟩ = some (.int .i64 (a : Int)) ∧ w'.cell? ⟨T + 1, 0, none⟩ = some (.pointer (some ⟨T, 0, none⟩))) rfl (by kernel_rfl) (by kernel_rfl) (by kernel_rfl) (by kernel_rfl) (by rfl) (fun _ h => ⟨h.1, h.2.1⟩) (.inl fun _ h => ⟨h.1, h.2.1⟩) (fun _ _ _ h => h) (.inl ⟨by rfl, ?hyq12⟩) hS6 ?_
      case hyq12 =>
        intro w' hSw
        try dsimp only at hSw
        go_simp
        all_goals with_reducible rfl
      try simp only [Act.put]
      refine wpAnyB_take (i := 12) (oi := _) (v := ?vvq13) (fun w' => w'.cell? ⟨hb, 1, none⟩ = some (.int .i64 (a : Int)) ∧ w'.cell? ⟨T + 1, 0, none⟩ = some (.pointer (some ⟨T, 0, none⟩)) ∧ w'.cell? ⟨T, a, none⟩ = some (.slice A0 m0 k0) ∧ w'.cell? ⟨T, a + 1, none⟩ = some (.slice A1 m1 k1)) rfl (by kernel_rfl) (by kernel_rfl) (by kernel_rfl) (by kernel_rfl) (by rfl) (fun _ h => ⟨h.1, h.2.1, h.2.2 rfl⟩) (.inr (by kernel_rfl)) (fun _ _ _ h => h) (.inl ⟨by rfl, ?hyq13⟩) hS6 ?_
      case hyq13 =>
        intro w' hSw
        try dsimp only at hSw
        go_simp
        all_goals with_reducible rfl
      try simp only [Act.put]
      refine wpAnyB_take (i := 13) (oi := _) (v := ?vvq14) (fun w' => w'.cell? ⟨hb, 1, none⟩ = some (.int .i64 (a : Int)) ∧ w'.cell? ⟨T + 1, 0, none⟩ = some (.pointer (some ⟨T, 0, none⟩))) rfl (by kernel_rfl) (by kernel_rfl) (by kernel_rfl) (by kernel_rfl) (by rfl) (fun _ h => ⟨h.1, h.2.1⟩) (.inl fun _ h => ⟨h.1, h.2.1⟩) (fun _ _ _ h => h) (.inl ⟨by rfl, ?hyq14⟩) hS6 ?_
      case hyq14 =>
        intro w' hSw
        try dsimp only at hSw
        go_simp
        all_goals with_reducible rfl
      try simp only [Act.put]
      refine wpAnyB_take (i := 16) (oi := _) (v := ?vvq15) (fun w' => w'.cell? ⟨hb, 1, none⟩ = some (.int .i64 (a : Int)) ∧ w'.cell? ⟨T + 1, 0, none⟩ = some (.pointer (some ⟨T, 0, none⟩))) rfl (by kernel_rfl) (by kernel_rfl) (by kernel_rfl) (by kernel_rfl) (by rfl) (fun _ h => ⟨h.1, h.2.1⟩) (.inl fun _ h => ⟨h.1, h.2.1⟩) (fun _ _ _ h => h) (.inl ⟨by rfl, ?hyq15⟩) hS6 ?_
      case hyq15 =>
        intro w' hSw
        try dsimp only at hSw
        go_simp
        all_goals with_reducible rfl
      try simp only [Act.put]
      refine wpAnyB_take (i := 17) (oi := _) (v := ?vvq16) (fun w' => w'.cell? ⟨hb, 1, none⟩ = some (.int .i64 (a : Int)) ∧ w'.cell? ⟨T + 1, 0, none⟩ = some (.pointer (some ⟨T, 0, none⟩))) rfl (by kernel_rfl) (by kernel_rfl) (by kernel_rfl) (by kernel_rfl) (by rfl) (fun _ h => ⟨h.1, h.2.1⟩) (.inl fun _ h => ⟨h.1, h.2.1⟩) (fun _ _ _ h => h) (.inl ⟨by rfl, ?hyq16⟩) hS6 ?_
      case hyq16 =>
        intro w' hSw
        try dsimp only at hSw
        go_simp
        all_goals with_reducible rfl
      try simp only [Act.put]
      refine wpAnyB_take (i := 18) (oi := _) (v := ?vvq17) (fun w' => w'.cell? ⟨hb, 1, none⟩ = some (.int .i64 (a : Int)) ∧ w'.cell? ⟨T + 1, 0, none⟩ = some (.pointer (some ⟨T, 0, none⟩))) rfl (by kernel_rfl) (by kernel_rfl) (by kernel_rfl) (by kernel_rfl) (by rfl) (fun _ h => ⟨h.1, h.2.1⟩) (.inl fun _ h => ⟨h.1, h.2.1⟩) (fun _ _ _ h => h) (.inl ⟨by rfl, ?hyq17⟩) hS6 ?_
      case hyq17 =>
        intro w' hSw
        try dsimp only at hSw
        go_simp
        all_goals with_reducible rfl
      try simp only [Act.put]
      refine wpAnyB_take (i := 19) (oi := _) (v := ?vvq18) (fun w' => w'.cell? ⟨hb, 1, none⟩ = some (.int .i64 (a : Int)) ∧ w'.cell? ⟨T + 1, 0, none⟩ = some (.pointer (some ⟨T, 0, none⟩))) rfl (by kernel_rfl) (by kernel_rfl) (by kernel_rfl) (by kernel_rfl) (by rfl) (fun _ h => ⟨h.1, h.2.1⟩) (.inl fun _ h => ⟨h.1, h.2.1⟩) (fun _ _ _ h => h) (.inl ⟨by rfl, ?hyq18⟩) hS6 ?_
      case hyq18 =>
        intro w' hSw
        try dsimp only at hSw
        go_simp
        all_goals with_reducible rfl
      try simp only [Act.put]
      refine wpAnyB_take (i := 20) (oi := _) (v := ?vvq19) (fun w' => w'.cell? ⟨hb, 1, none⟩ = some (.int .i64 (a : Int)) ∧ w'.cell? ⟨T + 1, 0, none⟩ = some (.pointer (some ⟨T, 0, none⟩))) rfl (by kernel_rfl) (by kernel_rfl) (by kernel_rfl) (by kernel_rfl) (by rfl) (fun _ h => ⟨h.1, h.2.1⟩) (.inl fun _ h => ⟨h.1, h.2.1⟩) (fun _ _ _ h => h) (.inl ⟨by rfl, ?hyq19⟩) hS6 ?_
      case hyq19 =>
        intro w' hSw
        try dsimp only at hSw
        go_simp
        all_goals with_reducible rfl
      try simp only [Act.put]
      refine wpAnyB_take (i := 21) (oi := _) (v := ?vvq20) (fun w' => w'.cell? ⟨hb, 1, none⟩ = some (.int .i64 (a : Int)) ∧ w'.cell? ⟨T + 1, 0, none⟩ = some (.pointer (some ⟨T, 0, none⟩))) rfl (by kernel_rfl) (by kernel_rfl) (by kernel_rfl) (by kernel_rfl) (by rfl) (fun _ h => ⟨h.1, h.2.1⟩) (.inl fun _ h => ⟨h.1, h.2.1⟩) (fun _ _ _ h => h) (.inl ⟨by rfl, ?hyq20⟩) hS6 ?_
      case hyq20 =>
        intro w' hSw
        try dsimp only at hSw
        go_simp
        all_goals with_reducible rfl
      try simp only [Act.put]
      refine wpAnyB_take (i := 22) (oi := _) (v := ?vvq21) (fun w' => w'.cell? ⟨hb, 1, none⟩ = some (.int .i64 (a : Int)) ∧ w'.cell? ⟨T + 1, 0, none⟩ = some (.pointer (some ⟨T, 0, none⟩)) ∧ w'.cell? ⟨T, a, none⟩ = some (.slice A0 m0 k0) ∧ w'.cell? ⟨T, a + 1, none⟩ = some (.slice A1 m1 k1)) rfl (by kernel_rfl) (by kernel_rfl) (by kernel_rfl) (by kernel_rfl) (by rfl) (fun _ h => ⟨h.1, h.2.1, h.2.2 rfl⟩) (.inr (by kernel_rfl)) (fun _ _ _ h => h) (.inl ⟨by rfl, ?hyq21⟩) hS6 ?_
      case hyq21 =>
        intro w' hSw
        try dsimp only at hSw
        go_simp
        all_goals with_reducible rfl
      try simp only [Act.put]
      refine wpAnyB_take (i := 23) (oi := _) (v := ?vvq22) (fun w' => w'.cell? ⟨hb, 1, none⟩ = some (.int .i64 (a : Int)) ∧ w'.cell? ⟨T + 1, 0, none⟩ = some (.pointer (some ⟨T, 0, none⟩))) rfl (by kernel_rfl) (by kernel_rfl) (by kernel_rfl) (by kernel_rfl) (by rfl) (fun _ h => ⟨h.1, h.2.1⟩) (.inl fun _ h => ⟨h.1, h.2.1⟩) (fun _ _ _ h => h) (.inl ⟨by rfl, ?hyq22⟩) hS6 ?_
      case hyq22 =>
        intro w' hSw
        try dsimp only at hSw
        go_simp
        all_goals with_reducible rfl
      try simp only [Act.put]
      refine wpAnyB_take (i := 26) (oi := _) (v := ?vvq23) (fun w' => w'.cell? ⟨hb, 1, none⟩ = some (.int .i64 (a : Int)) ∧ w'.cell? ⟨T + 1, 0, none⟩ = some (.pointer (some ⟨T, 0, none⟩))) rfl (by kernel_rfl) (by kernel_rfl) (by kernel_rfl) (by kernel_rfl) (by rfl) (fun _ h => ⟨h.1, h.2.1⟩) (.inl fun _ h => ⟨h.1, h.2.1⟩) (fun _ _ _ h => h) (.inl ⟨by rfl, ?hyq23⟩) hS6 ?_
      case hyq23 =>
        intro w' hSw
        try dsimp only at hSw
        go_simp
        all_goals with_reducible rfl
      try simp only [Act.put]
      refine wpAnyB_take (i := 29) (oi := _) (v := ?vvq24) (fun w' => w'.cell? ⟨hb, 1, none⟩ = some (.int .i64 (a : Int)) ∧ w'.cell? ⟨T + 1, 0, none⟩ = some (.pointer (some ⟨T, 0, none⟩))) rfl (by kernel_rfl) (by kernel_rfl) (by kernel_rfl) (by kernel_rfl) (by rfl) (fun _ h => ⟨h.1, h.2.1⟩) (.inl fun _ h => ⟨h.1, h.2.1⟩) (fun _ _ _ h => h) (.inl ⟨by rfl, ?hyq24⟩) hS6 ?_
      case hyq24 =>
        intro w' hSw
        try dsimp only at hSw
        go_simp
        all_goals with_reducible rfl
      try simp only [Act.put]
      refine wpAnyB_two (i := 14) (j := 24) false rfl rfl (by kernel_rfl) (by kernel_rfl) (by kernel_rfl) ?_ ?_
      · intro KK hKK
        go_simp
        have P7 := PushQ.alloc P6 (.cells #[.int .i64 (i : Int)] 3)
        have tA : (World.alloc W6 (.cells #[.int .i64 (i : Int)] 3)).cell? ⟨W6.heap.size, 0, none⟩ = some (vNat i) := by go_simp; all_goals rfl
        have zW7 : W6.heap.size < (World.alloc W6 (.cells #[.int .i64 (i : Int)] 3)).heap.size := by simp
        generalize (World.alloc W6 (.cells #[.int .i64 (i : Int)] 3)) = W7 at *
        refine hKK.out _ _ ⟨P7.box, P7.rpc.cell 0, fun _ => ⟨(P7.at_ (Nat.lt_of_succ_lt ha24)).trans (congrArg some HV0.out), (P7.at_ ha24).trans (congrArg some HV1.out)⟩⟩ ?_
        clear hKK KK
        try simp only [Act.put, List.setIfInBounds_toArray, List.set_cons_zero, List.set_cons_succ]
        refine wpAnyB_two (i := 15) (j := 24) false rfl rfl (by kernel_rfl) (by kernel_rfl) (by kernel_rfl) ?_ ?_
        · intro KK hKK
          have hrow0 := PushQ.rowA P7 ha24 HV0.out
          rw [HM0.out] at hrow0
          refine step_appN rfl (.tmp 42) (.tmp 44) _ rfl (T + 2) 3 (.int .i64 0) 1 8 Try.underlying29 infoInt rfl h1' h8' (.slice A0 m0 k0) m0 ((qTo ws i a).map vNat) rfl hrow0 _ 1 1 [vNat i] rfl rfl (news1Q tA) (one_int _ _) hl0' (Nat.le_of_lt (Nat.lt_of_le_of_lt P7.low P7.big)) ?_
          intro v0 W8 ho hg hn hr
          clear hn hrow0
          obtain ⟨v0A, v0k, v0e⟩ := own_form ho
          subst v0e
          have ho2 : World.ownsRow W8 (T + 2) 3 1 (.slice v0A (m0 + 1) v0k) ((qTo ws i a).length + 1) ((qTo ws i a).map vNat ++ [vNat i]) := by rw [HM0.out]; exact ho
          have P8 := PushQ.appA P7 ha24 HV0.out hg ho2 hr
          clear ho ho2 hr hg
          refine hKK.out _ _ ⟨P8.box, P8.rpc.cell 0, fun _ => ⟨(P8.at_ (Nat.lt_of_succ_lt ha24)).trans (congrArg some HV0.out), (P8.at_ ha24).trans (congrArg some HV1.out)⟩⟩ ?_
          clear hKK KK
          try simp only [Act.put, List.setIfInBounds_toArray]
          refine wpAnyB_one (i := 24) false rfl (by kernel_rfl) (by kernel_rfl) ?_
          intro KK hKK
          go_simp
          have P9 := PushQ.alloc P8 (.cells #[.int .i64 (i : Int)] 3)
          have tB : (World.alloc W8 (.cells #[.int .i64 (i : Int)] 3)).cell? ⟨W8.heap.size, 0, none⟩ = some (vNat i) := by go_simp; all_goals rfl
          have zW9 : W8.heap.size < (World.alloc W8 (.cells #[.int .i64 (i : Int)] 3)).heap.size := by simp
          generalize (World.alloc W8 (.cells #[.int .i64 (i : Int)] 3)) = W9 at *
          refine hKK.out _ _ ⟨P9.box, P9.rpc.cell 0, fun _ => ⟨(P9.at_ (Nat.lt_of_succ_lt ha24)).trans (congrArg some HV0.out), (P9.at_ ha24).trans (congrArg some HV1.out)⟩⟩ ?_
          clear hKK KK
          try simp only [Act.put, List.setIfInBounds_toArray, List.set_cons_zero, List.set_cons_succ]
          refine wpAnyB_one (i := 25) false rfl (by kernel_rfl) (by kernel_rfl) ?_
          intro KK hKK
          have hrow1 := PushQ.rowB P9 ha24 HV1.out
          rw [HM1.out] at hrow1
          refine step_appN rfl (.tmp 52) (.tmp 54) _ rfl (T + 2) 3 (.int .i64 0) 1 8 Try.underlying29 infoInt rfl h1' h8' (.slice A1 m1 k1) m1 ((qTo ws i (a + 1)).map vNat) rfl hrow1 _ 1 1 [vNat i] rfl rfl (news1Q tB) (one_int _ _) hl1' (Nat.le_of_lt (Nat.lt_of_le_of_lt P9.low P9.big)) ?_
          intro v1 W10 ho hg hn hr
          clear hn hrow1
          obtain ⟨v1A, v1k, v1e⟩ := own_form ho
          subst v1e
          have ho2 : World.ownsRow W10 (T + 2) 3 1 (.slice v1A (m1 + 1) v1k) ((qTo ws i (a + 1)).length + 1) ((qTo ws i (a + 1)).map vNat ++ [vNat i]) := by rw [HM1.out]; exact ho
          have PD := PushQ.appB P9 ha24 HV1.out hg ho2 hr
          clear ho ho2 hr hg
          refine hKK.out _ _ ⟨PD.box, PD.rpc.cell 0, fun _ => ⟨(PD.at_ (Nat.lt_of_succ_lt ha24)).trans (congrArg some HV0.out), (PD.at_ ha24).trans (congrArg some HV1.out)⟩⟩ ?_
          clear hKK KK
          try simp only [Act.put, List.setIfInBounds_toArray]
          refine wpAnyB_one (i := 27) false rfl (by kernel_rfl) (by kernel_rfl) ?_
          intro KK hKK
          go_simp
          refine hKK.out _ _ ⟨PD.box, PD.rpc.cell 0, fun _ => ⟨(PD.at_ (Nat.lt_of_succ_lt ha24)).trans (congrArg some HV0.out), (PD.at_ ha24).trans (congrArg some HV1.out)⟩⟩ ?_
          clear hKK KK
          try simp only [Act.put, List.setIfInBounds_toArray, List.set_cons_zero, List.set_cons_succ]
          refine wpAnyB_one (i := 28) true rfl (by kernel_rfl) (by kernel_rfl) ?_
          intro KK hKK
          have y1 := (PD.at_ (Nat.lt_of_succ_lt ha24))
          have y2 := (PD.at_ ha24)
          have y3 := PD.frz a
          have y4 := PD.frz (a + 1)
          have y5 := PD.box
          have y6 := PD.has.lt
          have y7 := PD.rpc.cell 0
          go_simp
          refine hKK.out _ _ ⟨((World.cell?_setCell_far _ _ _ _ (Nat.ne_of_lt hTh)).trans PD.box), ((World.cell?_setCell_far _ _ _ _ (Nat.ne_of_lt (Nat.lt_succ_self T))).trans (PD.rpc.cell 0)), fun h => by cases h⟩ ?_
          clear hKK KK
          try simp only [Act.put, List.setIfInBounds_toArray, List.set_cons_zero, List.set_cons_succ]
          refine wpAnyB_one (i := 30) true rfl (by kernel_rfl) (by kernel_rfl) ?_
          intro KK hKK
          go_simp
          refine hKK.out _ _ ⟨((World.cell?_setCell_far _ _ _ _ (Nat.ne_of_lt hTh)).trans PD.box), ((World.cell?_setCell_far _ _ _ _ (Nat.ne_of_lt (Nat.lt_succ_self T))).trans (PD.rpc.cell 0)), fun h => by cases h⟩ ?_
          clear hKK KK
          try simp only [Act.put, List.setIfInBounds_toArray, List.set_cons_zero, List.set_cons_succ]
          refine wpAnyB_one (i := 31) true rfl (by kernel_rfl) (by kernel_rfl) ?_
          intro KK hKK
          go_simp
          refine hKK.out _ _ ⟨((World.cell?_setCell_far _ _ _ _ (Nat.ne_of_lt hTh)).trans ((World.cell?_setCell_far _ _ _ _ (Nat.ne_of_lt hTh)).trans PD.box)), ((World.cell?_setCell_far _ _ _ _ (Nat.ne_of_lt (Nat.lt_succ_self T))).trans (((World.cell?_setCell_far _ _ _ _ (Nat.ne_of_lt (Nat.lt_succ_self T))).trans (PD.rpc.cell 0)))), fun h => by cases h⟩ ?_
          clear hKK KK
          try simp only [Act.put, List.setIfInBounds_toArray, List.set_cons_zero, List.set_cons_succ]
          refine wpAnyB_done (by kernel_rfl) (NoPanic.normal ?_) _
          clear y1 y2 y3 y4 y5 y6 y7
          have hEND := Lib.hid (PushQ.done PD HWA.out ha24)
          clear PD
          clear HV0 HV1 hfa hl0' hl1' h8' h1' p0 p1 p2 p3 p4 ia
          go_wp2
          exact ⟨⟨i + 1, _, HI1.out, by rw [Int.natCast_add]; rfl, hEND⟩, HMS.out⟩
        · intro KK hKK
          go_simp
          have P8 := PushQ.alloc P7 (.cells #[.int .i64 (i : Int)] 3)
          have tB : (World.alloc W7 (.cells #[.int .i64 (i : Int)] 3)).cell? ⟨W7.heap.size, 0, none⟩ = some (vNat i) := by go_simp; all_goals rfl
          have zW8 : W7.heap.size < (World.alloc W7 (.cells #[.int .i64 (i : Int)] 3)).heap.size := by simp
          have tA' := (World.cell?_alloc_lt W7 (.cells #[.int .i64 (i : Int)] 3) ⟨W6.heap.size, 0, none⟩ (by exact zW7)).trans tA
          generalize (World.alloc W7 (.cells #[.int .i64 (i : Int)] 3)) = W8 at *
          refine hKK.out _ _ ⟨P8.box, P8.rpc.cell 0, fun _ => ⟨(P8.at_ (Nat.lt_of_succ_lt ha24)).trans (congrArg some HV0.out), (P8.at_ ha24).trans (congrArg some HV1.out)⟩⟩ ?_
          clear hKK KK
          try simp only [Act.put, List.setIfInBounds_toArray, List.set_cons_zero, List.set_cons_succ]
          refine wpAnyB_one (i := 15) false rfl (by kernel_rfl) (by kernel_rfl) ?_
          intro KK hKK
          have hrow0 := PushQ.rowA P8 ha24 HV0.out
          rw [HM0.out] at hrow0
          refine step_appN rfl (.tmp 42) (.tmp 44) _ rfl (T + 2) 3 (.int .i64 0) 1 8 Try.underlying29 infoInt rfl h1' h8' (.slice A0 m0 k0) m0 ((qTo ws i a).map vNat) rfl hrow0 _ 1 1 [vNat i] rfl rfl (news1Q tA') (one_int _ _) hl0' (Nat.le_of_lt (Nat.lt_of_le_of_lt P8.low P8.big)) ?_
          intro v0 W9 ho hg hn hr
          clear hn hrow0
          obtain ⟨v0A, v0k, v0e⟩ := own_form ho
          subst v0e
          have ho2 : World.ownsRow W9 (T + 2) 3 1 (.slice v0A (m0 + 1) v0k) ((qTo ws i a).length + 1) ((qTo ws i a).map vNat ++ [vNat i]) := by rw [HM0.out]; exact ho
          have P9 := PushQ.appA P8 ha24 HV0.out hg ho2 hr
          have tB9 := tmp_keepQ hg zW8 (fun g e => Nat.lt_trans (hfa g e) P7.big) tB
          clear ho ho2 hr hg
          refine hKK.out _ _ ⟨P9.box, P9.rpc.cell 0, fun _ => ⟨(P9.at_ (Nat.lt_of_succ_lt ha24)).trans (congrArg some HV0.out), (P9.at_ ha24).trans (congrArg some HV1.out)⟩⟩ ?_
          clear hKK KK
          try simp only [Act.put, List.setIfInBounds_toArray]
          refine wpAnyB_one (i := 25) false rfl (by kernel_rfl) (by kernel_rfl) ?_
          intro KK hKK
          have hrow1 := PushQ.rowB P9 ha24 HV1.out
          rw [HM1.out] at hrow1
          refine step_appN rfl (.tmp 52) (.tmp 54) _ rfl (T + 2) 3 (.int .i64 0) 1 8 Try.underlying29 infoInt rfl h1' h8' (.slice A1 m1 k1) m1 ((qTo ws i (a + 1)).map vNat) rfl hrow1 _ 1 1 [vNat i] rfl rfl (news1Q tB9) (one_int _ _) hl1' (Nat.le_of_lt (Nat.lt_of_le_of_lt P9.low P9.big)) ?_
          intro v1 W10 ho hg hn hr
          clear hn hrow1
          obtain ⟨v1A, v1k, v1e⟩ := own_form ho
          subst v1e
          have ho2 : World.ownsRow W10 (T + 2) 3 1 (.slice v1A (m1 + 1) v1k) ((qTo ws i (a + 1)).length + 1) ((qTo ws i (a + 1)).map vNat ++ [vNat i]) := by rw [HM1.out]; exact ho
          have PD := PushQ.appB P9 ha24 HV1.out hg ho2 hr
          clear ho ho2 hr hg
          refine hKK.out _ _ ⟨PD.box, PD.rpc.cell 0, fun _ => ⟨(PD.at_ (Nat.lt_of_succ_lt ha24)).trans (congrArg some HV0.out), (PD.at_ ha24).trans (congrArg some HV1.out)⟩⟩ ?_
          clear hKK KK
          try simp only [Act.put]
          refine wpAnyB_one (i := 27) false rfl (by kernel_rfl) (by kernel_rfl) ?_
          intro KK hKK
          go_simp
          refine hKK.out _ _ ⟨PD.box, PD.rpc.cell 0, fun _ => ⟨(PD.at_ (Nat.lt_of_succ_lt ha24)).trans (congrArg some HV0.out), (PD.at_ ha24).trans (congrArg some HV1.out)⟩⟩ ?_
          clear hKK KK
          try simp only [Act.put, List.setIfInBounds_toArray, List.set_cons_zero, List.set_cons_succ]
          refine wpAnyB_one (i := 28) true rfl (by kernel_rfl) (by kernel_rfl) ?_
          intro KK hKK
          have y1 := (PD.at_ (Nat.lt_of_succ_lt ha24))
          have y2 := (PD.at_ ha24)
          have y3 := PD.frz a
          have y4 := PD.frz (a + 1)
          have y5 := PD.box
          have y6 := PD.has.lt
          have y7 := PD.rpc.cell 0
          go_simp
          refine hKK.out _ _ ⟨((World.cell?_setCell_far _ _ _ _ (Nat.ne_of_lt hTh)).trans PD.box), ((World.cell?_setCell_far _ _ _ _ (Nat.ne_of_lt (Nat.lt_succ_self T))).trans (PD.rpc.cell 0)), fun h => by cases h⟩ ?_
          clear hKK KK
          try simp only [Act.put, List.setIfInBounds_toArray, List.set_cons_zero, List.set_cons_succ]
          refine wpAnyB_one (i := 30) true rfl (by kernel_rfl) (by kernel_rfl) ?_
          intro KK hKK
          go_simp
          refine hKK.out _ _ ⟨((World.cell?_setCell_far _ _ _ _ (Nat.ne_of_lt hTh)).trans PD.box), ((World.cell?_setCell_far _ _ _ _ (Nat.ne_of_lt (Nat.lt_succ_self T))).trans (PD.rpc.cell 0)), fun h => by cases h⟩ ?_
          clear hKK KK
          try simp only [Act.put, List.setIfInBounds_toArray, List.set_cons_zero, List.set_cons_succ]
          refine wpAnyB_one (i := 31) true rfl (by kernel_rfl) (by kernel_rfl) ?_
          intro KK hKK
          go_simp
          refine hKK.out _ _ ⟨((World.cell?_setCell_far _ _ _ _ (Nat.ne_of_lt hTh)).trans ((World.cell?_setCell_far _ _ _ _ (Nat.ne_of_lt hTh)).trans PD.box)), ((World.cell?_setCell_far _ _ _ _ (Nat.ne_of_lt (Nat.lt_succ_self T))).trans (((World.cell?_setCell_far _ _ _ _ (Nat.ne_of_lt (Nat.lt_succ_self T))).trans (PD.rpc.cell 0)))), fun h => by cases h⟩ ?_
          clear hKK KK
          try simp only [Act.put, List.setIfInBounds_toArray, List.set_cons_zero, List.set_cons_succ]
          refine wpAnyB_done (by kernel_rfl) (NoPanic.normal ?_) _
          clear y1 y2 y3 y4 y5 y6 y7
          have hEND := Lib.hid (PushQ.done PD HWA.out ha24)
          clear PD
          clear HV0 HV1 hfa hl0' hl1' h8' h1' p0 p1 p2 p3 p4 ia
          go_wp2
          exact ⟨⟨i + 1, _, HI1.out, by rw [Int.natCast_add]; rfl, hEND⟩, HMS.out⟩
      · intro KK hKK
        go_simp
        have P7 := PushQ.alloc P6 (.cells #[.int .i64 (i : Int)] 3)
        have tB : (World.alloc W6 (.cells #[.int .i64 (i : Int)] 3)).cell? ⟨W6.heap.size, 0, none⟩ = some (vNat i) := by go_simp; all_goals rfl
        have zW7 : W6.heap.size < (World.alloc W6 (.cells #[.int .i64 (i : Int)] 3)).heap.size := by simp
        generalize (World.alloc W6 (.cells #[.int .i64 (i : Int)] 3)) = W7 at *
        refine hKK.out _ _ ⟨P7.box, P7.rpc.cell 0, fun _ => ⟨(P7.at_ (Nat.lt_of_succ_lt ha24)).trans (congrArg some HV0.out), (P7.at_ ha24).trans (congrArg some HV1.out)⟩⟩ ?_
        clear hKK KK
        try simp only [Act.put, List.setIfInBounds_toArray, List.set_cons_zero, List.set_cons_succ]
        refine wpAnyB_one (i := 14) false rfl (by kernel_rfl) (by kernel_rfl) ?_
        intro KK hKK
        go_simp
        have P8 := PushQ.alloc P7 (.cells #[.int .i64 (i : Int)] 3)
        have tA : (World.alloc W7 (.cells #[.int .i64 (i : Int)] 3)).cell? ⟨W7.heap.size, 0, none⟩ = some (vNat i) := by go_simp; all_goals rfl
        have zW8 : W7.heap.size < (World.alloc W7 (.cells #[.int .i64 (i : Int)] 3)).heap.size := by simp
        have tB' := (World.cell?_alloc_lt W7 (.cells #[.int .i64 (i : Int)] 3) ⟨W6.heap.size, 0, none⟩ (by exact zW7)).trans tB
        generalize (World.alloc W7 (.cells #[.int .i64 (i : Int)] 3)) = W8 at *
        refine hKK.out _ _ ⟨P8.box, P8.rpc.cell 0, fun _ => ⟨(P8.at_ (Nat.lt_of_succ_lt ha24)).trans (congrArg some HV0.out), (P8.at_ ha24).trans (congrArg some HV1.out)⟩⟩ ?_
        clear hKK KK
        try simp only [Act.put, List.setIfInBounds_toArray, List.set_cons_zero, List.set_cons_succ]
        refine wpAnyB_one (i := 15) false rfl (by kernel_rfl) (by kernel_rfl) ?_
        intro KK hKK
        have hrow0 := PushQ.rowA P8 ha24 HV0.out
        rw [HM0.out] at hrow0
        refine step_appN rfl (.tmp 42) (.tmp 44) _ rfl (T + 2) 3 (.int .i64 0) 1 8 Try.underlying29 infoInt rfl h1' h8' (.slice A0 m0 k0) m0 ((qTo ws i a).map vNat) rfl hrow0 _ 1 1 [vNat i] rfl rfl (news1Q tA) (one_int _ _) hl0' (Nat.le_of_lt (Nat.lt_of_le_of_lt P8.low P8.big)) ?_
        intro v0 W9 ho hg hn hr
        clear hn hrow0
        obtain ⟨v0A, v0k, v0e⟩ := own_form ho
        subst v0e
        have ho2 : World.ownsRow W9 (T + 2) 3 1 (.slice v0A (m0 + 1) v0k) ((qTo ws i a).length + 1) ((qTo ws i a).map vNat ++ [vNat i]) := by rw [HM0.out]; exact ho
        have P9 := PushQ.appA P8 ha24 HV0.out hg ho2 hr
        have tB9 := tmp_keepQ hg (Nat.lt_trans zW7 zW8) (fun g e => Nat.lt_trans (hfa g e) P6.big) tB'
        clear ho ho2 hr hg
        refine hKK.out _ _ ⟨P9.box, P9.rpc.cell 0, fun _ => ⟨(P9.at_ (Nat.lt_of_succ_lt ha24)).trans (congrArg some HV0.out), (P9.at_ ha24).trans (congrArg some HV1.out)⟩⟩ ?_
        clear hKK KK
        try simp only [Act.put, List.setIfInBounds_toArray]
        refine wpAnyB_one (i := 25) false rfl (by kernel_rfl) (by kernel_rfl) ?_
        intro KK hKK
        have hrow1 := PushQ.rowB P9 ha24 HV1.out
        rw [HM1.out] at hrow1
        refine step_appN rfl (.tmp 52) (.tmp 54) _ rfl (T + 2) 3 (.int .i64 0) 1 8 Try.underlying29 infoInt rfl h1' h8' (.slice A1 m1 k1) m1 ((qTo ws i (a + 1)).map vNat) rfl hrow1 _ 1 1 [vNat i] rfl rfl (news1Q tB9) (one_int _ _) hl1' (Nat.le_of_lt (Nat.lt_of_le_of_lt P9.low P9.big)) ?_
        intro v1 W10 ho hg hn hr
        clear hn hrow1
        obtain ⟨v1A, v1k, v1e⟩ := own_form ho
        subst v1e
        have ho2 : World.ownsRow W10 (T + 2) 3 1 (.slice v1A (m1 + 1) v1k) ((qTo ws i (a + 1)).length + 1) ((qTo ws i (a + 1)).map vNat ++ [vNat i]) := by rw [HM1.out]; exact ho
        have PD := PushQ.appB P9 ha24 HV1.out hg ho2 hr
        clear ho ho2 hr hg
        refine hKK.out _ _ ⟨PD.box, PD.rpc.cell 0, fun _ => ⟨(PD.at_ (Nat.lt_of_succ_lt ha24)).trans (congrArg some HV0.out), (PD.at_ ha24).trans (congrArg some HV1.out)⟩⟩ ?_
        clear hKK KK
        try simp only [Act.put]
        refine wpAnyB_one (i := 27) false rfl (by kernel_rfl) (by kernel_rfl) ?_
        intro KK hKK
        go_simp
        refine hKK.out _ _ ⟨PD.box, PD.rpc.cell 0, fun _ => ⟨(PD.at_ (Nat.lt_of_succ_lt ha24)).trans (congrArg some HV0.out), (PD.at_ ha24).trans (congrArg some HV1.out)⟩⟩ ?_
        clear hKK KK
        try simp only [Act.put, List.setIfInBounds_toArray, List.set_cons_zero, List.set_cons_succ]
        refine wpAnyB_one (i := 28) true rfl (by kernel_rfl) (by kernel_rfl) ?_
        intro KK hKK
        have y1 := (PD.at_ (Nat.lt_of_succ_lt ha24))
        have y2 := (PD.at_ ha24)
        have y3 := PD.frz a
        have y4 := PD.frz (a + 1)
        have y5 := PD.box
        have y6 := PD.has.lt
        have y7 := PD.rpc.cell 0
        go_simp
        refine hKK.out _ _ ⟨((World.cell?_setCell_far _ _ _ _ (Nat.ne_of_lt hTh)).trans PD.box), ((World.cell?_setCell_far _ _ _ _ (Nat.ne_of_lt (Nat.lt_succ_self T))).trans (PD.rpc.cell 0)), fun h => by cases h⟩ ?_
        clear hKK KK
        try simp only [Act.put, List.setIfInBounds_toArray, List.set_cons_zero, List.set_cons_succ]
        refine wpAnyB_one (i := 30) true rfl (by kernel_rfl) (by kernel_rfl) ?_
        intro KK hKK
        go_simp
        refine hKK.out _ _ ⟨((World.cell?_setCell_far _ _ _ _ (Nat.ne_of_lt hTh)).trans PD.box), ((World.cell?_setCell_far _ _ _ _ (Nat.ne_of_lt (Nat.lt_succ_self T))).trans (PD.rpc.cell 0)), fun h => by cases h⟩ ?_
        clear hKK KK
        try simp only [Act.put, List.setIfInBounds_toArray, List.set_cons_zero, List.set_cons_succ]
        refine wpAnyB_one (i := 31) true rfl (by kernel_rfl) (by kernel_rfl) ?_
        intro KK hKK
        go_simp
        refine hKK.out _ _ ⟨((World.cell?_setCell_far _ _ _ _ (Nat.ne_of_lt hTh)).trans ((World.cell?_setCell_far _ _ _ _ (Nat.ne_of_lt hTh)).trans PD.box)), ((World.cell?_setCell_far _ _ _ _ (Nat.ne_of_lt (Nat.lt_succ_self T))).trans (((World.cell?_setCell_far _ _ _ _ (Nat.ne_of_lt (Nat.lt_succ_self T))).trans (PD.rpc.cell 0)))), fun h => by cases h⟩ ?_
        clear hKK KK
        try simp only [Act.put, List.setIfInBounds_toArray, List.set_cons_zero, List.set_cons_succ]
        refine wpAnyB_done (by kernel_rfl) (NoPanic.normal ?_) _
        clear y1 y2 y3 y4 y5 y6 y7
        have hEND := Lib.hid (PushQ.done PD HWA.out ha24)
        clear PD
        clear HV0 HV1 hfa hl0' hl1' h8' h1' p0 p1 p2 p3 p4 ia
        go_wp2
        exact ⟨⟨i + 1, _, HI1.out, by rw [Int.natCast_add]; rfl, hEND⟩, HMS.out⟩
    · obtain rfl : n = i := by omega
      have ji : ¬ (n : Int) < (n : Int) := by omega
      clear hlt
      have HQ := Lib.hid (show QuH T wo.heap.size wo T ws noneD V by have := I.out; rw [← HL.out] at this; exact this.quh)
      have HRP := Lib.hid I.out.rpc
      have HBo : Hid (Below T w1 wo) := I.out.old
      have GSo := Lib.hid (GS.out.below HBo.out hTs0)
      have GTo := Lib.hid (GT.out.below HBo.out hTs)
      have HBw := Lib.hid (HB.out.trans (HBo.out.mono (Nat.le_trans HB.out.size (Nat.le_of_eq HTT.out.symm))))
      have hTB : T + 1 < wo.heap.size := HRP.out.lt
      obtain ⟨Br, hBr⟩ : ∃ Br, Br = wo.heap.size := ⟨_, rfl⟩
      rw [← hBr] at HQ hTB
      have HBR := Lib.hid hBr
      clear hBr I GS GT HB HBo
      have g0 : wo.cell? ⟨w.heap.size, 0, none⟩ = some (.int .i64 (p : Int)) := GSo.out.cell 0
      have g1 : wo.cell? ⟨w.heap.size + 1, 0, none⟩ = some (.int .i64 (s : Int)) := GTo.out.cell 0
      obtain ⟨KP, hKP⟩ : ∃ KP, KP = p - s + 1 := ⟨_, rfl⟩
      have i1 : IntKind.i64.wrap ((p : Int) - (s : Int)) = ((p - s : Nat) : Int) := by have := HPS.out; rw [IntWalk.i64_in _ (by omega)]; omega
      have i2 : IntKind.i64.wrap (((p - s : Nat) : Int) + 1) = (KP : Int) := by have := HPS.out; rw [IntWalk.i64_in _ (by omega)]; omega
      have HKP := Lib.hid hKP
      clear hKP
      go_wp2
      clear i1 i2 g0 g1
      have hkp : KP ≤ 24 := by have := HPS.out; have := HKP.out; omega
      go_loopw [10, 66] (fun v hv wr => ∃ (k : Nat) (A : Option Addr) (cp : Nat), k ≤ KP ∧ hv = .int .i64 (k : Int) ∧ v = .slice A k cp ∧ Hid (wr.ownsRow Br 3 1 v k ((List.range k).map fun x => Value.int .i64 ((x : Nat) : Int))) ∧ Hid (Below Br wo wr)) (fun _ hv _ => KP - (intOf hv).toNat)
      case atStart => exact ⟨0, none, 0, Nat.zero_le _, rfl, rfl, Lib.hid (World.ownsRow_nil _ _ _ _), Lib.hid (Below.refl _ _)⟩
      case round =>
        obtain ⟨k, A2, cp, hk, rfl, rfl, HO, HB2⟩ := hrel
        obtain ⟨w4, rfl⟩ : ∃ w4 : World, w4 = wr := ⟨_, rfl⟩
        by_cases hlt : k < KP
        · have jk : (k : Int) < (KP : Int) := by omega
          have k0 : (0 : Int) ≤ (k : Int) := by omega
          have ik : IntKind.i64.wrap ((k : Int) + 1) = (k : Int) + 1 := IntWalk.i64_in _ (by omega)
          have HK1 : Hid (k + 1 ≤ KP) := by show _ ≤ _; omega
          have HMS : Hid (KP - (intOf (.int .i64 ((k : Int) + 1))).toNat < KP - (intOf (.int .i64 (k : Int))).toNat) := by show _ < _; simp only [intOf]; omega
          have hB4 : Br ≤ w4.heap.size := by have := HB2.out.size; have := HBR.out; omega
          go_wp2_with (first | (at_builtin; refine wpList_app rfl (.tmp 69) (.tmp 71) _ rfl Br 3 (.int .i64 0) 1 8 Try.underlying29 infoInt rfl (by omega) (by omega) (.slice A2 k cp) _ _ rfl (HO.out.alloc _) w4.heap.size [.int .i64 (k : Int)] rfl rfl (news_new _ _ _) (one_int _ _) (by omega) (by simp; omega) ?_; intro g4 c4 w5 hg4 hown4 hgrow4 hor4) | fail)
          have B5 : Hid (Below Br wo w5) := HB2.out.trans (((Below.refl Br w4).alloc hB4 (.cells #[.int .i64 (k : Int)] 3)).grown hgrow4 (by simp; omega) (fun r hr => (HO.out.lt r hr).1))
          exact ⟨⟨k + 1, some ⟨g4, 0, none⟩, c4, HK1.out, by rw [Int.natCast_add]; rfl, rfl, by show World.ownsRow _ _ _ _ _ _ _; rw [List.range_succ, List.map_append]; exact hown4, B5⟩, HMS.out⟩
        · obtain rfl : KP = k := by omega
          have jk : ¬ (KP : Int) < (KP : Int) := by omega
          clear hlt hk
          have hB4 : Br ≤ w4.heap.size := by have := HB2.out.size; have := HBR.out; omega
          have GS4 := Lib.hid (GSo.out.below HB2.out (by omega))
          have GT4 := Lib.hid (GTo.out.below HB2.out (by omega))
          have RP4 := Lib.hid (HRP.out.below HB2.out hTB)
          have HQ4 := Lib.hid (HQ.out.keep (KeepQ.of_below HB2.out (Nat.le_refl _)) (HB2.out.block T (by omega)))
          have HBw4 := Lib.hid (HBw.out.trans (HB2.out.mono (by have := HBw.out.size; have := HBR.out; omega)))
          clear HQ HRP GSo GTo HBw HB2
          go_wp2
          have hb9 : w4.heap.size + 1 = (w4.alloc (.cells #[.slice none 0 0] 47)).heap.size := by simp
          have HS0 : Has ((w4.alloc (.cells #[.slice none 0 0] 47)).alloc (.cells #[.int .i64 0] 3)) w4.heap.size 47 [.slice none 0 0] := (Has.new rfl).alloc _
          have HS1 : Has ((w4.alloc (.cells #[.slice none 0 0] 47)).alloc (.cells #[.int .i64 0] 3)) (w4.heap.size + 1) 3 [.int .i64 0] := by
            have h := Has.new (w := w4.alloc (.cells #[.slice none 0 0] 47)) (arr := #[.int .i64 0]) (t := 3) (cs := [.int .i64 0]) rfl
            rw [World.size_alloc] at h
            exact h
          have BS := ((Below.refl w4.heap.size w4).alloc (Nat.le_refl _) (.cells #[.slice none 0 0] 47)).alloc (by simp) (.cells #[.int .i64 0] 3)
          obtain ⟨Bo, hBo⟩ : ∃ Bo, Bo = w4.heap.size := ⟨_, rfl⟩
          rw [← hBo] at HS0 HS1 BS hB4
          simp only [← hBo]
          generalize (w4.alloc (.cells #[.slice none 0 0] 47)).alloc (.cells #[.int .i64 0] 3) = wS at *
          have GSs := Lib.hid (GS4.out.below BS (by rw [hBo]; exact GS4.out.lt))
          have GTs := Lib.hid (GT4.out.below BS (by rw [hBo]; exact GT4.out.lt))
          have RPs := Lib.hid (RP4.out.below BS (by rw [hBo]; exact RP4.out.lt))
          have HQs := Lib.hid (HQ4.out.keep (KeepQ.of_below BS hB4) (BS.block T (by omega)))
          have HBs := Lib.hid (HBw4.out.trans (BS.mono (by rw [hBo]; exact HBw4.out.size)))
          have hBS : Bo ≤ wS.heap.size := by rw [hBo]; exact BS.size
          have HPL := Lib.hid (fun (W : World) (hW : KeepO Bo T wS W) => (fun j x hx => by
            obtain ⟨hj, hjx⟩ : j < KP ∧ x = (j : Int) := by
              rw [List.getElem?_map] at hx
              rcases Nat.lt_or_ge j KP with h | h
              · rw [List.getElem?_range h] at hx; exact ⟨h, by simpa using hx.symm⟩
              · rw [List.getElem?_eq_none (by simpa using h)] at hx; cases hx
            subst hjx
            obtain ⟨g, e1, e2, e3, e4⟩ := own_at HO.out (j := j) (u := .int .i64 (j : Int)) (by rw [List.getElem?_map, List.getElem?_range hj]; rfl)
            have e5 : g < Bo := by omega
            have e6 : W.heap[g]? = w4.heap[g]? := (hW.block g e5 (by omega)).trans (BS.block g e5)
            exact ⟨g, 0, e1, by have := hW.size; omega, by rw [Nat.zero_add]; exact (World.cell?_of_block e6).trans e4⟩ : RdI W W.heap.size A2 ((List.range KP).map fun x => ((x : Nat) : Int))))
          have HW9 : Hid (RdW wS w.heap.size A ws) := HW.out.below HBs.out (Nat.le_refl _)
          have hT9 : w.heap.size + 1 < T := hTs
          have HBO := Lib.hid hBo
          have hun := und_le ws noneD
          clear GS4 GT4 RP4 HQ4 HBw4 HO BS hBo hb9
          go_loopg [13] (und ws noneD) (fun kk v13 wr => ∃ (bm : Nat) (D : Nat → Bool) (V' : Nat → Value) (os : List Wk) (mk : Nat), v13 = .pointer (some ⟨bm, 0, none⟩) ∧ Bo ≤ bm ∧ bm ≠ Bo ∧ kk = und ws D ∧ mk + und ws D = n ∧ os.length ≤ 2 * mk ∧ Hid (QuH T Br wr T ws D V') ∧ Hid (QI Bo T Bo bm wS os mk wr) ∧ Hid (∃ f, und ws D ≤ f ∧ os ++ qkF ws KP (s - 1) f D = quickP p s ws))
          case atStart =>
            refine ⟨Bo + 1, noneD, V, [], 0, rfl, by omega, by omega, rfl, ?_, by simp, HQs, ⟨⟨none, 0, HS0, World.ownsRow_nil _ _ _ _⟩, HS1, KeepO.refl _ _ _⟩, ⟨ws.length, hun, by rw [HKP.out]; rfl⟩⟩
            rw [Nat.zero_add, und_none]; exact HL.out
          case round =>
            clear HQs HS0 HS1 hun
            obtain ⟨bm, D, V', os, mk, rfl, hbm, hbmo, hgk, hmk, hos, HQ, HI, HE⟩ := hrel
            obtain ⟨wo', rfl⟩ : ∃ wo' : World, wo' = wr := ⟨_, rfl⟩
            have m0 : wo'.cell? ⟨bm, 0, none⟩ = some (.int .i64 (mk : Int)) := HI.out.m.cell 0
            have hgs : w.heap.size ≠ T := by omega
            have s1 : wo'.cell? ⟨w.heap.size, 1, none⟩ = some (.slice A n c) := (HI.out.keep.has GSs.out (by omega) hgs).cell 1
            by_cases hu : und ws D = 0
            · have hmn : mk = n := by omega
              have jn : ¬ (mk : Int) < (n : Int) := by omega
              obtain ⟨A9, c9, ho1, ho2⟩ := HI.out.o
              have o0 : wo'.cell? ⟨Bo, 0, none⟩ = some (.slice A9 os.length c9) := ho1.cell 0
              have HOS : Hid (os = quickP p s ws) := by
                obtain ⟨f, _, hf⟩ := HE.out
                rw [qkF_zero hu, List.append_nil] at hf
                exact hf
              have HO2 := Lib.hid ho2
              have HB9 := Lib.hid (HBs.out.trans (HI.out.keep.below (B := w.heap.size) (by omega) (by omega)))
              clear ho1 ho2 hu hmn
              go_wp2
              go_ret2
              rw [← HOS.out]
              exact ⟨_, _, _, rfl, own_rdW HO2.out, rfl, (own_caps HO2.out).1, (own_caps HO2.out).2, HB9.out⟩
            · have hmn : mk < n := by omega
              have jn : (mk : Int) < (n : Int) := by omega
              have hwB : Br ≤ wo'.heap.size := by have := HI.out.keep.size; omega
              have hnl : ws.length ≤ 400 := by have := HL.out; omega
              have hmuch : ∀ x, much ws (s - 1) D x ≤ 1000 := fun x => by
                have := sweep_und (ws := ws) (h := x) (m := s - 1) ws.length (D := D) (und_le ws D)
                have := und_le ws D
                unfold much; omega
              have RPw := HI.out.keep.has RPs.out (by omega) (by omega)
              have GTw := HI.out.keep.has GTs.out (by omega) (by omega)
              have CB := Lib.hid (fun eg => best102 103 #[.pointer (some ⟨T + 1, 0, none⟩), .pointer (some ⟨w.heap.size + 1, 0, none⟩)] (much ws (s - 1) D) A2 KP cp wo' (HPL.out wo' HI.out.keep) (by have := HKP.out; omega) (by omega) hmuch eg
                (fun x W hx hW => quick1 T Br T (T + 1) (w.heap.size + 1) x s ws D V' W (HQ.out.keep (KeepQ.of_below hW hwB) (hW.block T HQ.out.h.lt)) (Nat.le_trans hwB hW.size) hnl (RPw.below hW RPw.lt) (GTw.below hW GTw.lt) (by have := HPS.out; omega) (by have := HPS.out; have := HKP.out; omega)))
              have hHle : bstQ ws (s - 1) D KP + s ≤ 24 := by
                have h1 := bstQ_lt ws (s - 1) D (p - s)
                rw [← HKP.out] at h1
                have := HPS.out; omega
              have hpos : 0 < much ws (s - 1) D (bstQ ws (s - 1) D KP) := best_pos (by have := HPS.out; omega) (by have := HKP.out; omega) (fun j hj => by
                obtain ⟨y, hy⟩ := get_of_lt hj
                obtain ⟨h1, h2⟩ := HR.out y (List.mem_of_getElem? hy)
                rw [wat_get hy]
                have := HPS.out; have := HKP.out; omega) (by omega)
              rw [← bstQ_eq] at CB
              obtain ⟨H, hH⟩ : ∃ H, H = bstQ ws (s - 1) D KP := ⟨_, rfl⟩
              rw [← hH] at CB hHle hpos
              have HH := Lib.hid hH
              have HP9 := Lib.hid hpos
              have HU := Lib.hid hu
              have HGK := Lib.hid hgk
              have HMK := Lib.hid (And.intro hmk hos)
              have HHL := Lib.hid hHle
              clear hH hpos hu hgk hmk hos hHle hmuch RPw GTw hmn
              go_wp2_with fail
              refine (CB.out (by intros; rfl)).mono ?_
              rintro e w6 ⟨rfl, hb6⟩
              dsimp only
              have QI6 := HI.out.below hb6 (Nat.le_trans hBS HI.out.keep.size)
              have HQ6 := Lib.hid (HQ.out.keep (KeepQ.of_below hb6 hwB) (hb6.block T HQ.out.h.lt))
              have hz6 := hb6.size
              have hB6 : Bo ≤ w6.heap.size := Nat.le_trans hBS QI6.keep.size
              clear hb6 CB HQ HI m0 s1
              obtain ⟨A9, c9, ho1, ho2⟩ := QI6.o
              obtain ⟨m9, hm9⟩ : ∃ m, m = os.length := ⟨_, rfl⟩
              rw [← hm9] at ho1 ho2
              have hm9b : m9 ≤ 100000 := by have := HMK.out; omega
              have HM9 := Lib.hid hm9
              clear hm9
              have o0 : w6.cell? ⟨Bo, 0, none⟩ = some (.slice A9 m9 c9) := ho1.cell 0
              have ol := ho1.lt
              have HO1 := Lib.hid ho1
              have HO2 := Lib.hid ho2
              have HQ6m := Lib.hid QI6.m
              have HQ6k := Lib.hid QI6.keep
              have RP6 := Lib.hid (QI6.keep.has RPs.out (by omega) (by omega))
              have GT6 := Lib.hid (QI6.keep.has GTs.out (by omega) (by omega))
              clear ho1 ho2 QI6
              have nb1 : T + 1 ≠ Bo := by omega
              have nb2 : w.heap.size + 1 ≠ Bo := by omega
              go_upto_region 21 with (first | (at_builtin; refine wpList_app rfl (.tmp 82) (.tmp 85) _ rfl Bo 64 (.agg #[.int .i64 0, .int .i64 0, .string ⟨#[]⟩]) 3 32 Try.underlying47 infoSt rfl (by omega) (by omega) (.slice A9 m9 c9) _ _ rfl (HO2.out.alloc _) w6.heap.size (wkCells ⟨1, (H : Int), ⟨#[]⟩⟩) rfl rfl (news_wk _ ⟨1, (H : Int), ⟨#[]⟩⟩ _) (one_wk _) (by omega) (by simp; omega) ?_; intro g7 c7 w7 hg7 hown7 hgrow7 hor7; have D7 : Below Bo w6 w7 := ((Below.refl Bo w6).alloc hB6 (.cells #[.int .i64 1, .int .i64 (H : Int), .string ⟨#[]⟩] 64)).grown hgrow7 (by simp; omega) (fun r hr => (HO2.out.lt r hr).1); have K7 := (HO1.out.alloc (.cells #[.int .i64 1, .int .i64 (H : Int), .string ⟨#[]⟩] 64)).same (hgrow7.block Bo (by simp; omega) (fun e => (HO1.out.ne_own HO2.out (by decide)) e.symm)); have M7 := (HQ6m.out.alloc (.cells #[.int .i64 1, .int .i64 (H : Int), .string ⟨#[]⟩] 64)).same (hgrow7.block bm (by have := HQ6m.out.lt; simp; omega) (fun e => (HQ6m.out.ne_own HO2.out (by decide)) e.symm)); have k0 : w7.cell? ⟨Bo, 0, none⟩ = some (.slice A9 m9 c9) := K7.cell 0; have k1 := K7.free 0; have k2 := K7.lt) | fail)
              have O8 := (But.set Bo w7 0 (.slice (some ⟨g7, 0, none⟩) (m9 + 1) c7)).own hown7 (K7.ne_own hown7 (by decide))
              have K8 := K7.set 0 (.slice (some ⟨g7, 0, none⟩) (m9 + 1) c7)
              have M8 := M7.far hbmo 0 (.slice (some ⟨g7, 0, none⟩) (m9 + 1) c7)
              have D8 : Below Bo w6 (w7.setCell ⟨Bo, 0, none⟩ (.slice (some ⟨g7, 0, none⟩) (m9 + 1) c7)) := D7.setCell (p := ⟨Bo, 0, none⟩) (Nat.le_refl _) _
              generalize w7.setCell ⟨Bo, 0, none⟩ (.slice (some ⟨g7, 0, none⟩) (m9 + 1) c7) = w8 at *
              have QI8 : QI Bo T Bo bm wS (os ++ [⟨1, (H : Int), ⟨#[]⟩⟩]) mk w8 := ⟨⟨some ⟨g7, 0, none⟩, c7, by rw [List.length_append, ← HM9.out]; exact K8, by rw [List.length_append, ← HM9.out, wksCells_app]; exact O8⟩, M8, HQ6k.out.trans (KeepO.of_below D8)⟩
              have HQ8 := HQ6.out.keep (KeepQ.of_below D8 hB4) (D8.block T (by omega))
              have r8 : w8.cell? ⟨T + 1, 0, none⟩ = some (.pointer (some ⟨T, 0, none⟩)) := (RP6.out.below D8 (by omega)).cell 0
              have s8 : w8.cell? ⟨w.heap.size + 1, 0, none⟩ = some (.int .i64 (s : Int)) := (GT6.out.below D8 (by omega)).cell 0
              have hz8 : Br ≤ w8.heap.size := by have := D8.size; omega
              obtain ⟨os1, hos1⟩ : ∃ o, o = os ++ [⟨1, (H : Int), ⟨#[]⟩⟩] := ⟨_, rfl⟩
              rw [← hos1] at QI8
              have hosl : os1.length = os.length + 1 := by rw [hos1]; simp
              have hmkb := HMK.out
              have SW := Lib.hid (fun eg => sweep104 (fun pre W => QI Bo T Bo bm wS (os1 ++ stepsAt ws pre) (mk + pre.length) W) 106 #[.pointer (some ⟨Bo, 0, none⟩), .pointer (some ⟨w.heap.size, 0, none⟩), .pointer (some ⟨bm, 0, none⟩)] T Br T H s ws D V' [] w8 eg (.inl (Nat.le_refl _)) hz8 HQ8 (by have := HPS.out; omega) HHL.out
                (by show QI Bo T Bo bm wS (os1 ++ []) (mk + 0) w8; rw [List.append_nil]; exact QI8)
                (fun pre W W' h k => h.but k hBS (by omega) (Nat.le_refl _) hbm)
                (fun pre i W hi hpl hI hBW => by
                  obtain ⟨x, hx⟩ := get_of_lt hi
                  have e1 : stepsAt ws (pre ++ [i]) = stepsAt ws pre ++ [stepOf x] := by
                    unfold stepsAt
                    rw [List.map_append]
                    simp only [List.map_cons, List.map_nil, hx]
                  have e2 : (stepsAt ws pre).length = pre.length := by unfold stepsAt; rw [List.length_map]
                  simp only [List.length_nil, Nat.zero_add] at hpl
                  refine (quick2 Bo T w.heap.size Bo bm w.heap.size (mk + pre.length) i n c (p : Int) A ws (os1 ++ stepsAt ws pre) x wS W hI hBS (by omega) (by omega) hgs (Nat.le_refl _) hbm hbmo GSs.out HW9.out (by omega) HL.out hx (by omega) (by rw [List.length_append, e2]; omega)).mono ?_
                  rintro e W' ⟨h1, h2, h3⟩
                  refine ⟨h1, ?_, KeepQ.of_below h3 hB4, h3.block T (by omega), h3.size⟩
                  rw [e1, List.length_append, ← List.append_assoc]
                  exact h2))
              have HOS1 := Lib.hid hos1
              have HOSL := Lib.hid hosl
              clear O8 K8 M8 D8 QI8 HQ8 hz8 hos1 hosl hmkb k0 k1 k2 K7 M7 D7 hown7 hgrow7 hor7 hg7 o0 ol HO1 HO2 HQ6m HQ6k RP6 GT6 HQ6
              go_wp2_with fail
              refine (SW.out (by intros; rfl)).mono ?_
              rintro e w9 ⟨rfl, ⟨V9, Q9⟩, QI9, kq9, hz9⟩
              dsimp only
              rw [List.nil_append] at QI9
              have HL9 : Hid (0 < (sweep ws H (s - 1) D).length) := HP9.out
              have HU9 := Lib.hid (sweep_und (ws := ws) (h := H) (m := s - 1) ws.length (D := D) (und_le ws D))
              have HH9 : Hid (sweep ws (bstQ ws (s - 1) D KP) (s - 1) D = sweep ws H (s - 1) D) := by show _ = _; rw [← HH.out]
              have HH8 := HH
              obtain ⟨l, hl9⟩ : ∃ l, l = sweep ws H (s - 1) D := ⟨_, rfl⟩
              rw [← hl9] at Q9 QI9 HL9 HU9 HH9
              obtain ⟨mk9, hmk9⟩ : ∃ m, m = mk + l.length := ⟨_, rfl⟩
              rw [← hmk9] at QI9
              have HMK9 := Lib.hid hmk9
              have m9c : w9.cell? ⟨bm, 0, none⟩ = some (.int .i64 (mk9 : Int)) := QI9.m.cell 0
              have HQ9 := Lib.hid Q9
              have HI9 := Lib.hid QI9
              have hz9b : Bo ≤ w9.heap.size := Nat.le_trans hBS QI9.keep.size
              clear hl9 hmk9 Q9 QI9 kq9 hz9 SW r8 s8
              go_wp2
              have DA := (Below.refl w9.heap.size w9).alloc (Nat.le_refl _) (.cells #[.int .i64 (mk9 : Int)] 3)
              go_roundg (und ws (mkAll D l))
              case measure => have h1 := HU9.out; have h2 := HL9.out; have h3 := HGK.out; omega
              case rel =>
                obtain ⟨A5, c5, u1, u2⟩ := HI9.out.o
                refine ⟨w9.heap.size, mkAll D l, V9, os1 ++ stepsAt ws l, mk9, rfl, hz9b, ?_, rfl, ?_, ?_, HQ9.out.keep (KeepQ.of_below DA (by omega)) (DA.block T HQ9.out.h.lt), ⟨⟨A5, c5, u1.alloc _, u2.alloc _⟩, Has.new rfl, HI9.out.keep.trans (KeepO.of_below (DA.mono hz9b))⟩, ?_⟩
                · have := u1.lt; omega
                · have h1 := HU9.out; have h2 := HMK9.out; have h3 := HMK.out.1; omega
                · have e2 : (stepsAt ws l).length = l.length := by unfold stepsAt; rw [List.length_map]
                  have h1 := HOSL.out; have h2 := HMK9.out; have h3 := HMK.out.2; have h4 := HL9.out
                  rw [List.length_append, e2]; omega
                · obtain ⟨f, hf, hE⟩ := HE.out
                  have hU := HU.out
                  obtain ⟨f', rfl⟩ : ∃ f', f = f' + 1 := ⟨f - 1, by omega⟩
                  refine ⟨f', by have h1 := HU9.out; have h2 := HL9.out; omega, ?_⟩
                  rw [qkF_succ hU, HH9.out, ← HH8.out] at hE
                  rw [← hE, HOS1.out]
                  simp
end Go.Proofs.Ytnjenggijmbhcaa
