/-
  Contract of torchonref17: Word.
-/
import Derived.Test.YtpljaoagiaijiaaV14
import Derived.Deep.Cut
import Derived.Deep.CutRange
namespace Go.Proofs.Ytpljaoagiaijiaa
open Go.RowKit
/-- the word of the first k crossings -/
def wordTo (xs : List Q4) : Nat → List Int
  | 0 => []
  | k + 1 => match xs[k]? with
    | some x => wordTo xs k ++ [if (lineTo xs (lineL 48) k).getD x.b.toNat 0 = x.c then x.b + 1 else -(x.b + 1)]
    | none => wordTo xs k
def wordR (t : Int) (xs ps : List Q4) : List Int := if ckE t xs ps = 0 then wordTo xs xs.length else []
theorem wordTo_succ {xs : List Q4} {k : Nat} {x : Q4} (h : xs[k]? = some x) : wordTo xs (k + 1) = wordTo xs k ++ [if (lineTo xs (lineL 48) k).getD x.b.toNat 0 = x.c then x.b + 1 else -(x.b + 1)] := by
  show (match xs[k]? with | some x => wordTo xs k ++ [if (lineTo xs (lineL 48) k).getD x.b.toNat 0 = x.c then x.b + 1 else -(x.b + 1)] | none => wordTo xs k) = _
  rw [h]
theorem wordTo_len {xs : List Q4} : ∀ k, k ≤ xs.length → (wordTo xs k).length = k
  | 0, _ => rfl
  | k + 1, hk => by
    obtain ⟨x, hx⟩ := get_of_lt (l := xs) (k := k) (by omega)
    rw [wordTo_succ hx, List.length_append, wordTo_len k (by omega)]; rfl
set_option maxRecDepth 100000 in
set_option maxHeartbeats 8000000 in
theorem word33 (t : Int) (A B : Option Addr) (n c m d : Nat) (xs ps : List Q4) (w : World) (hn : n ≤ 9223372036854775807) (hm : m ≤ 9223372036854775807) (hx : RdQ w w.heap.size A xs) (hp : RdQ w w.heap.size B ps) (hl : xs.length = n) (hl' : ps.length = m) (ht0 : -9223372036854775808 ≤ t) :
    Calls Try.prog 33 #[vCloth t A n c B m d] w fun e w' => ∃ A' n' c', e = .returned (.tuple #[.slice A' n' c', .int .i64 (ckE t xs ps)]) ∧ RdI w' w'.heap.size A' (wordR t xs ps) ∧ (wordR t xs ps).length = n' ∧ Below w.heap.size w w' := by
  have C1 := Lib.hid (fun (W : World) (hb : Below w.heap.size w W) => check17 t A B n c m d xs ps W hn hm (hx.up hb) (hp.up hb) hl hl' ht0)
  have K0 : Has (w.alloc (.cells #[.int .i64 t, .slice A n c, .slice B m d] 30)) w.heap.size 30 [.int .i64 t, .slice A n c, .slice B m d] := Has.new rfl
  by_cases hE : ckE t xs ps = 0
  case neg =>
    have hR : wordR t xs ps = [] := by unfold wordR; rw [if_neg hE]
    rw [hR]
    generalize ckE t xs ps = r at *
    have hr : (r != 0) = true := by simpa using hE
    clear hE hR hx hp hl hl'
    go_enter Try.func33, Try.ntmps33
    go_wp2_with fail
    refine (C1.out _ (by go_grown)).mono ?_
    rintro e w1 ⟨rfl, hb1⟩
    have B1 : Below w.heap.size w w1 := bvia (show Below w.heap.size w _ by go_grown) hb1
    clear hb1 C1
    go_wp2
    go_ret2
    exact ⟨none, 0, 0, rfl, Rd1.nil _ _ _ _, rfl, B1⟩
  obtain ⟨g1, g2, g3, g4, g5⟩ := ckE_ends hE
  have hR : wordR t xs ps = wordTo xs n := by unfold wordR; rw [if_pos hE, hl]
  rw [hE] at C1
  rw [hE, hR]
  obtain ⟨T, rfl⟩ := Int.eq_ofNat_of_zero_le (show 0 ≤ t by omega)
  have hT48 : T ≤ 48 := by omega
  have hn2 : n ≤ 20000 := by omega
  have HOK : Hid (∀ x ∈ xs, 0 ≤ x.b ∧ x.b ≤ (T : Int) - 2) := fun x hx => by have := g4 x hx; unfold okC at this; simp at this; omega
  have HX := Lib.hid hx
  have HL := Lib.hid hl
  clear hx hp hl hl' hE g3 g4 g5 hR
  go_enter Try.func33, Try.ntmps33
  go_wp2_with fail
  refine (C1.out _ (by go_grown)).mono ?_
  rintro e w1 ⟨rfl, hb1⟩
  have B1 : Below w.heap.size w w1 := bvia (show Below w.heap.size w _ by go_grown) hb1
  have HB := K0.below hb1 K0.lt
  have a0 : w1.cell? ⟨w.heap.size, 0, none⟩ = some (.int .i64 (T : Int)) := HB.cell 0
  have q := HB.lt
  clear K0 hb1 C1
  go_wp2_with fail
  refine (line41 T _ hT48).mono ?_
  rintro e w2 ⟨A2, n2, cl, rfl, o2, l2, hb2⟩
  obtain rfl : T = n2 := by rw [← l2, lineL_len]
  obtain ⟨gl, rfl, hgl, hgl2, _⟩ := own_at o2 (j := 0) (u := vInt 0) (by rw [List.getElem?_map, lineL_at0 (by omega)]; rfl)
  have HB2 := Lib.hid (HB.below hb2 HB.lt)
  have hwl : w.heap.size < gl := Nat.lt_of_lt_of_le q hgl
  have B2 := bvia B1 hb2
  have HL2 : Hid (w2.ownsRow (w.heap.size + 1) 3 1 (.slice (some ⟨gl, 0, none⟩) T cl) T (((lineTo xs (lineL 48) 0).take T).map vInt)) := by
    show w2.ownsRow _ _ _ _ _ (((lineL 48).take T).map vInt)
    rw [lineL_take T hT48]
    exact own_mono o2 (by omega)
  clear a0 q HB o2 l2 hb2 hgl hgl2 B1
  go_wp2
  go_loopw [6, 7] (fun v i wr => ∃ (j : Nat) (X : Option Addr) (cx : Nat), j ≤ n ∧ i = .int .i64 (j : Int) ∧ v = .slice X j cx ∧ Hid (wr.ownsRow (gl + 1) 3 1 (.slice X j cx) j ((wordTo xs j).map vInt)) ∧ Hid (wr.ownsRow (w.heap.size + 1) 3 1 (.slice (some ⟨gl, 0, none⟩) T cl) T (((lineTo xs (lineL 48) j).take T).map vInt)) ∧ Hid (Has wr w.heap.size 30 [.int .i64 (T : Int), .slice A n c, .slice B m d]) ∧ Below w.heap.size w wr) (fun _ i _ => n - (intOf i).toNat)
  case atStart => exact ⟨0, none, 0, Nat.zero_le _, rfl, rfl, Lib.hid (World.ownsRow_nil _ _ _ _), HL2, HB2, B2⟩
  case round =>
    clear HL2 HB2 B2
    obtain ⟨j, X, cx, hj, rfl, rfl, HR, HLr, HC, hb⟩ := hrel
    obtain ⟨wo, rfl⟩ : ∃ wo : World, wo = wr := ⟨_, rfl⟩
    have a1 : wo.cell? ⟨w.heap.size, 1, none⟩ = some (.slice A n c) := HC.out.cell 1
    have q := HC.out.lt
    by_cases hlt : j < n
    · obtain ⟨x, hx⟩ := get_of_lt (l := xs) (k := j) (by rw [HL.out]; exact hlt)
      obtain ⟨x0, x1⟩ := HOK.out x (mem_of_get hx)
      obtain ⟨i, hi⟩ := Int.eq_ofNat_of_zero_le x0
      have hiT : i + 1 < T := by omega
      have HS := Lib.hid (wordTo_succ hx)
      obtain ⟨a, ha⟩ := get_of_lt (l := (lineTo xs (lineL 48) j)) (k := i) (by rw [lineTo_len, lineL_len]; omega)
      obtain ⟨bv, hb'⟩ := get_of_lt (l := (lineTo xs (lineL 48) j)) (k := i + 1) (by rw [lineTo_len, lineL_len]; omega)
      have HST := Lib.hid (lineTo_next hx hi ha hb')
      have HLa : Hid (((lineTo xs (lineL 48) j).take T)[i]? = some a) := by show _ = _; rw [List.getElem?_take, if_pos (by omega)]; exact ha
      have HLb : Hid (((lineTo xs (lineL 48) j).take T)[i + 1]? = some bv) := by show _ = _; rw [List.getElem?_take, if_pos (by omega)]; exact hb'
      have hD : (lineTo xs (lineL 48) j).getD x.b.toNat 0 = a := by rw [hi, show ((i : Nat) : Int).toNat = i by simp, List.getD_eq_getElem?_getD, ha]; rfl
      rw [hD] at HS
      obtain ⟨ba, o, rfl, hba, c0, c1, c2, c3⟩ := (HX.out.up hb) j x hx
      rw [hi] at c1 HS
      have jn : (j : Int) < (n : Int) := by omega
      obtain ⟨w5, hw5⟩ : ∃ w5, w5 = wo.alloc (.cells #[.int .i64 x.a, .int .i64 (i : Int), .int .i64 x.c, .int .i64 x.d] 70) := ⟨_, rfl⟩
      have hb5 : Below wo.heap.size wo w5 := by rw [hw5]; go_grown
      have K5 : Has w5 wo.heap.size 70 [.int .i64 x.a, .int .i64 (i : Int), .int .i64 x.c, .int .i64 x.d] := by rw [hw5]; exact Has.new rfl
      obtain ⟨m1, hm1⟩ : ∃ m1, m1 = (i : Int) + 1 := ⟨_, rfl⟩
      have i1 : IntKind.i64.wrap ((i : Int) + 1) = m1 := by rw [hm1]; exact IntWalk.i64_in _ (by omega)
      have hm2 : 1 ≤ m1 ∧ m1 ≤ 48 := by omega
      rw [← hm1] at HS
      have HM1 := Lib.hid hm1
      clear hm1
      go_upto_region 10 with (fail)
      rw [← hw5]
      obtain ⟨gx, hgx⟩ : ∃ g, g = wo.heap.size := ⟨_, rfl⟩
      have hglx : gl < gx := by rw [hgx]; exact (HLr.out.lt gl rfl).2
      rw [← hgx] at K5 ⊢
      have HR5 := Lib.hid (own_below HR.out hb5)
      have HL5 := Lib.hid (own_below HLr.out hb5)
      have HC5 := Lib.hid (HC.out.below hb5 HC.out.lt)
      have HX5 := Lib.hid K5
      have B5 := bvia hb hb5
      have hsz5 : gl + 1 ≤ w5.heap.size := (HL5.out.lt gl rfl).2
      clear hx x0 x1 hi ha hb' hD hw5 hb5 hgx K5 c0 c1 c2 c3 a1 q HR HLr HC hb hba
      have k1 : w5.cell? ⟨gx, 1, none⟩ = some (.int .i64 (i : Int)) := HX5.out.cell 1
      have k2 : w5.cell? ⟨gx, 2, none⟩ = some (.int .i64 x.c) := HX5.out.cell 2
      have r0 : w5.cell? ⟨gl, i, none⟩ = some (.int .i64 a) := (HL5.out.cellAt i (by omega)).trans (by rw [List.getElem?_map, HLa.out]; rfl)
      have qx := HX5.out.lt
      have ql := (HL5.out.lt gl rfl).2
      have i5 : (i : Int) < (T : Int) := by omega
      have i6 : i < T := by omega
      go_upto_region 11 with (fail)
      have hxc := fun (x : Ext w5) => x.cell
      refine wp_region_ext (by kernel_rfl) (by kernel_rfl) ?_
      repeat (go_big_quiet_step (fail))
      refine wpQuiet_nil ?_
      intro w6 hw'
      have hb6 := ext_below hw'
      clear hw' hxc k1 k2 r0 qx ql
      have HR6 := Lib.hid (own_below HR5.out hb6)
      have HL6 := Lib.hid (own_below HL5.out hb6)
      have HC6 := Lib.hid (HC5.out.below hb6 HC5.out.lt)
      have HX6 := Lib.hid (HX5.out.below hb6 HX5.out.lt)
      have B6 := bvia B5 hb6
      have hsz6 : gl + 1 ≤ w6.heap.size := Nat.le_trans hsz5 hb6.size
      clear HR5 HL5 HC5 HX5 B5 hb6 hsz5
      obtain ⟨nv, hnv⟩ : ∃ nv, nv = (if a = x.c then m1 else -m1) := ⟨_, rfl⟩
      rw [← hnv] at HS
      have HNV := Lib.hid hnv
      clear hnv
      go_upto_if 40 with (fail)
      go_cut [9] from 18 to 66 (fun v wx => v = .int .i64 nv ∧ wx = w6)
      case first =>
        by_cases hac : a = x.c
        · have d1 : (a != x.c) = false := by simpa using hac
          have HN : Hid (nv = m1) := by show _ = _; rw [HNV.out, if_pos hac]
          clear hac
          go_wp2
          go_meet
          case rel => exact ⟨by rw [HN.out], rfl⟩
        · have d1 : (a != x.c) = true := by simpa using hac
          have HN : Hid (nv = -m1) := by show _ = _; rw [HNV.out, if_neg hac]
          have i7 : IntKind.i64.wrap (-m1) = -m1 := IntWalk.i64_in _ (by omega)
          clear hac
          go_wp2
          go_meet
          case rel => exact ⟨by rw [HN.out], rfl⟩
      case rest =>
        obtain ⟨hv, rfl⟩ := hcut
        subst hv
        have HR7 := Lib.hid (HR6.out.alloc (.cells #[.int .i64 nv] 3))
        go_wp2_with (first | (at_builtin; refine wpList_app rfl (.tmp 43) (.tmp 45) _ rfl (gl + 1) 3 (.int .i64 0) 1 8 Try.underlying35 infoInt rfl (by omega) (by omega) _ _ _ rfl HR7.out wc.heap.size [vInt nv] rfl rfl (news_new _ _ _) (one_int _ _) (by omega) (by simp; omega) ?_; intro ga cap1 W8 hg1 hown1 hgrow1 hor1) | fail)
        have hkeep : ∀ r, r < wc.heap.size → (Value.slice X j cx).ownBlock ≠ some r → W8.heap[r]? = wc.heap[r]? := fun r hr hne => (hgrow1.block r (by simp; omega) (fun e => hne e.symm)).trans (Below.heap_alloc wc _ r hr)
        have hnb : ∀ r, r ≤ gl → (Value.slice X j cx).ownBlock ≠ some r := fun r hr e => by have := (HR6.out.lt r e).1; omega
        have HR8 := Lib.hid hown1
        have HL8 := Lib.hid (own_same HL6.out (fun g hg => by
          obtain rfl : gl = g := by simpa [Value.ownBlock] using hg
          exact hkeep gl (by omega) (hnb gl (Nat.le_refl _))))
        have HC8 := Lib.hid (HC6.out.same (hkeep _ HC6.out.lt (hnb _ (by omega))))
        have HX8 := Lib.hid (HX6.out.same (hkeep _ HX6.out.lt (HX6.out.ne_own HR6.out (by decide))))
        have B8 := (B6.alloc (by omega) (.cells #[.int .i64 nv] 3)).grown hgrow1 (by simp; omega) (fun r hr => by have := (HR6.out.lt r hr).1; omega)
        have HGA := Lib.hid hg1
        clear hown1 hgrow1 hor1 hkeep hnb HR7 HR6 HL6 HC6 HX6 B6 hg1
        have ngx : gx ≠ gl := by omega
        have ngx' : gl ≠ gx := by omega
        have xa : W8.cell? ⟨gx, 1, none⟩ = some (.int .i64 (i : Int)) := HX8.out.cell 1
        have ya : W8.cell? ⟨gl, i, none⟩ = some (.int .i64 a) := (HL8.out.cellAt i (by omega)).trans (by rw [List.getElem?_map, HLa.out]; rfl)
        have yb : W8.cell? ⟨gl, i + 1, none⟩ = some (.int .i64 bv) := (HL8.out.cellAt (i + 1) (by omega)).trans (by rw [List.getElem?_map, HLb.out]; rfl)
        have ql := (HL8.out.lt gl rfl).2
        have qx := HX8.out.lt
        have j2 : m1.toNat = i + 1 := by have := HM1.out; omega
        have j3 : (0 : Int) ≤ m1 := by omega
        have j4 : m1 < (T : Int) := by have := HM1.out; omega
        go_upto_region 14 with (fail)
        refine wp_region_noPanic ?_
        refine wp_region_B (fun b w' => gl < w'.heap.size ∧ w'.cell? ⟨gx, 1, none⟩ = some (.int .i64 (i : Int)) ∧ (b = false → w'.cell? ⟨gl, i, none⟩ = some (.int .i64 a) ∧ w'.cell? ⟨gl, i + 1, none⟩ = some (.int .i64 bv))) 19 (by kernel_rfl) ?_
        have hSSs : (fun b w' => gl < w'.heap.size ∧ w'.cell? ⟨gx, 1, none⟩ = some (.int .i64 (i : Int)) ∧ (b = false → w'.cell? ⟨gl, i, none⟩ = some (.int .i64 a) ∧ w'.cell? ⟨gl, i + 1, none⟩ = some (.int .i64 bv))) false (W8.drew) := ⟨ql, xa, fun _ => ⟨ya, yb⟩⟩
        refine wpAnyB_take (i := 0) (oi := _) (v := ?vvs1) (fun w' => gl < w'.heap.size ∧ w'.cell? ⟨gx, 1, none⟩ = some (.int .i64 (i : Int))) rfl (by kernel_rfl) (by kernel_rfl) (by kernel_rfl) (by kernel_rfl) (by rfl) (fun _ h => ⟨h.1, h.2.1⟩) (.inl fun _ h => ⟨h.1, h.2.1⟩) (fun _ _ _ h => h) (.inl ⟨by rfl, ?hys1⟩) hSSs ?_
        case hys1 =>
          intro w' hSw
          try dsimp only at hSw
          go_simp
          all_goals with_reducible rfl
        try simp only [Act.put, List.setIfInBounds_toArray, List.set_cons_zero, List.set_cons_succ]
        refine wpAnyB_take (i := 1) (oi := _) (v := ?vvs2) (fun w' => gl < w'.heap.size ∧ w'.cell? ⟨gx, 1, none⟩ = some (.int .i64 (i : Int))) rfl (by kernel_rfl) (by kernel_rfl) (by kernel_rfl) (by kernel_rfl) (by rfl) (fun _ h => ⟨h.1, h.2.1⟩) (.inl fun _ h => ⟨h.1, h.2.1⟩) (fun _ _ _ h => h) (.inl ⟨by rfl, ?hys2⟩) hSSs ?_
        case hys2 =>
          intro w' hSw
          try dsimp only at hSw
          go_simp
          all_goals with_reducible rfl
        try simp only [Act.put, List.setIfInBounds_toArray, List.set_cons_zero, List.set_cons_succ]
        refine wpAnyB_take (i := 2) (oi := _) (v := ?vvs3) (fun w' => gl < w'.heap.size ∧ w'.cell? ⟨gx, 1, none⟩ = some (.int .i64 (i : Int))) rfl (by kernel_rfl) (by kernel_rfl) (by kernel_rfl) (by kernel_rfl) (by rfl) (fun _ h => ⟨h.1, h.2.1⟩) (.inl fun _ h => ⟨h.1, h.2.1⟩) (fun _ _ _ h => h) (.inl ⟨by rfl, ?hys3⟩) hSSs ?_
        case hys3 =>
          intro w' hSw
          try dsimp only at hSw
          go_simp
          all_goals with_reducible rfl
        try simp only [Act.put, List.setIfInBounds_toArray, List.set_cons_zero, List.set_cons_succ]
        refine wpAnyB_take (i := 3) (oi := _) (v := ?vvs4) (fun w' => gl < w'.heap.size ∧ w'.cell? ⟨gx, 1, none⟩ = some (.int .i64 (i : Int))) rfl (by kernel_rfl) (by kernel_rfl) (by kernel_rfl) (by kernel_rfl) (by rfl) (fun _ h => ⟨h.1, h.2.1⟩) (.inl fun _ h => ⟨h.1, h.2.1⟩) (fun _ _ _ h => h) (.inl ⟨by rfl, ?hys4⟩) hSSs ?_
        case hys4 =>
          intro w' hSw
          try dsimp only at hSw
          go_simp
          all_goals with_reducible rfl
        try simp only [Act.put, List.setIfInBounds_toArray, List.set_cons_zero, List.set_cons_succ]
        refine wpAnyB_take (i := 4) (oi := _) (v := ?vvs5) (fun w' => gl < w'.heap.size ∧ w'.cell? ⟨gx, 1, none⟩ = some (.int .i64 (i : Int))) rfl (by kernel_rfl) (by kernel_rfl) (by kernel_rfl) (by kernel_rfl) (by rfl) (fun _ h => ⟨h.1, h.2.1⟩) (.inl fun _ h => ⟨h.1, h.2.1⟩) (fun _ _ _ h => h) (.inl ⟨by rfl, ?hys5⟩) hSSs ?_
        case hys5 =>
          intro w' hSw
          try dsimp only at hSw
          go_simp
          all_goals with_reducible rfl
        try simp only [Act.put, List.setIfInBounds_toArray, List.set_cons_zero, List.set_cons_succ]
        refine wpAnyB_take (i := 5) (oi := _) (v := ?vvs6) (fun w' => gl < w'.heap.size ∧ w'.cell? ⟨gx, 1, none⟩ = some (.int .i64 (i : Int))) rfl (by kernel_rfl) (by kernel_rfl) (by kernel_rfl) (by kernel_rfl) (by rfl) (fun _ h => ⟨h.1, h.2.1⟩) (.inl fun _ h => ⟨h.1, h.2.1⟩) (fun _ _ _ h => h) (.inl ⟨by rfl, ?hys6⟩) hSSs ?_
        case hys6 =>
          intro w' hSw
          try dsimp only at hSw
          go_simp
          all_goals with_reducible rfl
        try simp only [Act.put, List.setIfInBounds_toArray, List.set_cons_zero, List.set_cons_succ]
        refine wpAnyB_take (i := 6) (oi := _) (v := ?vvs7) (fun w' => gl < w'.heap.size ∧ w'.cell? ⟨gx, 1, none⟩ = some (.int .i64 (i : Int))) rfl (by kernel_rfl) (by kernel_rfl) (by kernel_rfl) (by kernel_rfl) (by rfl) (fun _ h => ⟨h.1, h.2.1⟩) (.inl fun _ h => ⟨h.1, h.2.1⟩) (fun _ _ _ h => h) (.inl ⟨by rfl, ?hys7⟩) hSSs ?_
        case hys7 =>
          intro w' hSw
          try dsimp only at hSw
          go_simp
          all_goals with_reducible rfl
        try simp only [Act.put, List.setIfInBounds_toArray, List.set_cons_zero, List.set_cons_succ]
        refine wpAnyB_take (i := 7) (oi := _) (v := ?vvs8) (fun w' => gl < w'.heap.size ∧ w'.cell? ⟨gx, 1, none⟩ = some (.int .i64 (i : Int))) rfl (by kernel_rfl) (by kernel_rfl) (by kernel_rfl) (by kernel_rfl) (by rfl) (fun _ h => ⟨h.1, h.2.1⟩) (.inl fun _ h => ⟨h.1, h.2.1⟩) (fun _ _ _ h => h) (.inl ⟨by rfl, ?hys8⟩) hSSs ?_
        case hys8 =>
          intro w' hSw
          try dsimp only at hSw
          go_simp
          all_goals with_reducible rfl
        try simp only [Act.put, List.setIfInBounds_toArray, List.set_cons_zero, List.set_cons_succ]
        refine wpAnyB_take (i := 8) (oi := _) (v := ?vvs9) (fun w' => gl < w'.heap.size ∧ w'.cell? ⟨gx, 1, none⟩ = some (.int .i64 (i : Int))) rfl (by kernel_rfl) (by kernel_rfl) (by kernel_rfl) (by kernel_rfl) (by rfl) (fun _ h => ⟨h.1, h.2.1⟩) (.inl fun _ h => ⟨h.1, h.2.1⟩) (fun _ _ _ h => h) (.inl ⟨by rfl, ?hys9⟩) hSSs ?_
        case hys9 =>
          intro w' hSw
          try dsimp only at hSw
          go_simp
          all_goals with_reducible rfl
        try simp only [Act.put, List.setIfInBounds_toArray, List.set_cons_zero, List.set_cons_succ]
        refine wpAnyB_take (i := 9) (oi := _) (v := ?vvs10) (fun w' => gl < w'.heap.size ∧ w'.cell? ⟨gx, 1, none⟩ = some (.int .i64 (i : Int))) rfl (by kernel_rfl) (by kernel_rfl) (by kernel_rfl) (by kernel_rfl) (by rfl) (fun _ h => ⟨h.1, h.2.1⟩) (.inl fun _ h => ⟨h.1, h.2.1⟩) (fun _ _ _ h => h) (.inl ⟨by rfl, ?hys10⟩) hSSs ?_
        case hys10 =>
          intro w' hSw
          try dsimp only at hSw
          go_simp
          all_goals with_reducible rfl
        try simp only [Act.put, List.setIfInBounds_toArray, List.set_cons_zero, List.set_cons_succ]
        refine wpAnyB_take (i := 10) (oi := _) (v := ?vvs11) (fun w' => gl < w'.heap.size ∧ w'.cell? ⟨gx, 1, none⟩ = some (.int .i64 (i : Int))) rfl (by kernel_rfl) (by kernel_rfl) (by kernel_rfl) (by kernel_rfl) (by rfl) (fun _ h => ⟨h.1, h.2.1⟩) (.inl fun _ h => ⟨h.1, h.2.1⟩) (fun _ _ _ h => h) (.inl ⟨by rfl, ?hys11⟩) hSSs ?_
        case hys11 =>
          intro w' hSw
          try dsimp only at hSw
          go_simp
          all_goals with_reducible rfl
        try simp only [Act.put, List.setIfInBounds_toArray, List.set_cons_zero, List.set_cons_succ]
        refine wpAnyB_take (i := 11) (oi := _) (v := ?vvs12) (fun w' => gl < w'.heap.size ∧ w'.cell? ⟨gx, 1, none⟩ = some (.int .i64 (i : Int))) rfl (by kernel_rfl) (by kernel_rfl) (by kernel_rfl) (by kernel_rfl) (by rfl) (fun _ h => ⟨h.1, h.2.1⟩) (.inl fun _ h => ⟨h.1, h.2.1⟩) (fun _ _ _ h => h) (.inl ⟨by rfl, ?hys12⟩) hSSs ?_
        case hys12 =>
          intro w' hSw
          try dsimp only at hSw
          go_simp
          all_goals with_reducible rfl
        try simp only [Act.put, List.setIfInBounds_toArray, List.set_cons_zero, List.set_cons_succ]
        refine wpAnyB_take (i := 12) (oi := _) (v := ?vvs13) (fun w' => gl < w'.heap.size ∧ w'.cell? ⟨gx, 1, none⟩ = some (.int .i64 (i : Int)) ∧ w'.cell? ⟨gl, i, none⟩ = some (.int .i64 a) ∧ w'.cell? ⟨gl, i + 1, none⟩ = some (.int .i64 bv)) rfl (by kernel_rfl) (by kernel_rfl) (by kernel_rfl) (by kernel_rfl) (by rfl) (fun _ h => ⟨h.1, h.2.1, h.2.2 rfl⟩) (.inr (by kernel_rfl)) (fun _ _ _ h => h) (.inl ⟨by rfl, ?hys13⟩) hSSs ?_
        case hys13 =>
          intro w' hSw
          try dsimp only at hSw
          go_simp
          all_goals with_reducible rfl
        try simp only [Act.put, List.setIfInBounds_toArray, List.set_cons_zero, List.set_cons_succ]
        refine wpAnyB_take (i := 13) (oi := _) (v := ?vvs14) (fun w' => gl < w'.heap.size ∧ w'.cell? ⟨gx, 1, none⟩ = some (.int .i64 (i : Int))) rfl (by kernel_rfl) (by kernel_rfl) (by kernel_rfl) (by kernel_rfl) (by rfl) (fun _ h => ⟨h.1, h.2.1⟩) (.inl fun _ h => ⟨h.1, h.2.1⟩) (fun _ _ _ h => h) (.inl ⟨by rfl, ?hys14⟩) hSSs ?_
        case hys14 =>
          intro w' hSw
          try dsimp only at hSw
          go_simp
          all_goals with_reducible rfl
        try simp only [Act.put, List.setIfInBounds_toArray, List.set_cons_zero, List.set_cons_succ]
        refine wpAnyB_take (i := 14) (oi := _) (v := ?vvs15) (fun w' => gl < w'.heap.size ∧ w'.cell? ⟨gx, 1, none⟩ = some (.int .i64 (i : Int))) rfl (by kernel_rfl) (by kernel_rfl) (by kernel_rfl) (by kernel_rfl) (by rfl) (fun _ h => ⟨h.1, h.2.1⟩) (.inl fun _ h => ⟨h.1, h.2.1⟩) (fun _ _ _ h => h) (.inl ⟨by rfl, ?hys15⟩) hSSs ?_
        case hys15 =>
          intro w' hSw
          try dsimp only at hSw
          go_simp
          all_goals with_reducible rfl
        try simp only [Act.put, List.setIfInBounds_toArray, List.set_cons_zero, List.set_cons_succ]
        refine wpAnyB_take (i := 15) (oi := _) (v := ?vvs16) (fun w' => gl < w'.heap.size ∧ w'.cell? ⟨gx, 1, none⟩ = some (.int .i64 (i : Int))) rfl (by kernel_rfl) (by kernel_rfl) (by kernel_rfl) (by kernel_rfl) (by rfl) (fun _ h => ⟨h.1, h.2.1⟩) (.inl fun _ h => ⟨h.1, h.2.1⟩) (fun _ _ _ h => h) (.inl ⟨by rfl, ?hys16⟩) hSSs ?_
        case hys16 =>
          intro w' hSw
          try dsimp only at hSw
          go_simp
          all_goals with_reducible rfl
        try simp only [Act.put, List.setIfInBounds_toArray, List.set_cons_zero, List.set_cons_succ]
        refine wpAnyB_take (i := 16) (oi := _) (v := ?vvs17) (fun w' => gl < w'.heap.size ∧ w'.cell? ⟨gx, 1, none⟩ = some (.int .i64 (i : Int))) rfl (by kernel_rfl) (by kernel_rfl) (by kernel_rfl) (by kernel_rfl) (by rfl) (fun _ h => ⟨h.1, h.2.1⟩) (.inl fun _ h => ⟨h.1, h.2.1⟩) (fun _ _ _ h => h) (.inl ⟨by rfl, ?hys17⟩) hSSs ?_
        case hys17 =>
          intro w' hSw
          try dsimp only at hSw
          go_simp
          all_goals with_reducible rfl
        try simp only [Act.put, List.setIfInBounds_toArray, List.set_cons_zero, List.set_cons_succ]
        refine wpAnyB_take (i := 17) (oi := _) (v := ?vvs18) (fun w' => gl < w'.heap.size ∧ w'.cell? ⟨gx, 1, none⟩ = some (.int .i64 (i : Int)) ∧ w'.cell? ⟨gl, i, none⟩ = some (.int .i64 a) ∧ w'.cell? ⟨gl, i + 1, none⟩ = some (.int .i64 bv)) rfl (by kernel_rfl) (by kernel_rfl) (by kernel_rfl) (by kernel_rfl) (by rfl) (fun _ h => ⟨h.1, h.2.1, h.2.2 rfl⟩) (.inr (by kernel_rfl)) (fun _ _ _ h => h) (.inl ⟨by rfl, ?hys18⟩) hSSs ?_
        case hys18 =>
          intro w' hSw
          try dsimp only at hSw
          go_simp
          all_goals with_reducible rfl
        try simp only [Act.put, List.setIfInBounds_toArray, List.set_cons_zero, List.set_cons_succ]
        refine wpAnyB_take (i := 18) (oi := _) (v := ?vvs19) (fun w' => gl < w'.heap.size ∧ w'.cell? ⟨gx, 1, none⟩ = some (.int .i64 (i : Int))) rfl (by kernel_rfl) (by kernel_rfl) (by kernel_rfl) (by kernel_rfl) (by rfl) (fun _ h => ⟨h.1, h.2.1⟩) (.inl fun _ h => ⟨h.1, h.2.1⟩) (fun _ _ _ h => h) (.inl ⟨by rfl, ?hys19⟩) hSSs ?_
        case hys19 =>
          intro w' hSw
          try dsimp only at hSw
          go_simp
          all_goals with_reducible rfl
        try simp only [Act.put, List.setIfInBounds_toArray, List.set_cons_zero, List.set_cons_succ]
        refine wpAnyB_one (i := 19) true rfl (by kernel_rfl) (by kernel_rfl) ?_
        intro KK hKK
        have y0 := HL8.out.frozenAt i
        go_simp
        clear y0
        have h8 := (HL8.out.stored i (vInt bv)).1
        obtain ⟨w8, hw8⟩ : ∃ w8, w8 = W8.setCell ⟨gl, i, none⟩ (vInt bv) := ⟨_, rfl⟩
        rw [← hw8] at h8
        have x8 : w8.cell? ⟨gx, 1, none⟩ = some (.int .i64 (i : Int)) := by rw [hw8]; exact (HX8.out.far ngx i _).cell 1
        generalize hw9 : W8.setCell ⟨gl, i, none⟩ (.int .i64 bv) = w9
        obtain rfl : w8 = w9 := hw8.trans hw9
        have HW8 := Lib.hid hw8
        clear hw8 hw9
        have q8 := (h8.lt gl rfl).2
        refine hKK.out _ _ ⟨q8, x8, fun hh => by cases hh⟩ ?_
        clear hKK KK
        try simp only [Act.put, List.setIfInBounds_toArray, List.set_cons_zero, List.set_cons_succ]
        refine wpAnyB_one (i := 20) true rfl (by kernel_rfl) (by kernel_rfl) ?_
        intro KK hKK
        go_simp
        refine hKK.out _ _ ⟨q8, x8, fun hh => by cases hh⟩ ?_
        clear hKK KK
        try simp only [Act.put, List.setIfInBounds_toArray, List.set_cons_zero, List.set_cons_succ]
        refine wpAnyB_one (i := 21) true rfl (by kernel_rfl) (by kernel_rfl) ?_
        intro KK hKK
        have y0 := h8.frozenAt (i + 1)
        have y1 : w8.cell? ⟨gl, i + 1, none⟩ = some (.int .i64 bv) := (h8.cellAt (i + 1) (by omega)).trans (by rw [List.getElem?_set_ne (by omega), List.getElem?_map, HLb.out]; rfl)
        have x9 : (w8.setCell ⟨gl, i + 1, none⟩ (.int .i64 a)).cell? ⟨gx, 1, none⟩ = some (.int .i64 (i : Int)) := by rw [HW8.out]; exact ((HX8.out.far ngx i _).far ngx (i + 1) _).cell 1
        go_simp
        clear y0 y1
        refine hKK.out _ _ ⟨(by simp; exact q8), x9, fun hh => by cases hh⟩ ?_
        clear hKK KK
        try simp only [Act.put, List.setIfInBounds_toArray, List.set_cons_zero, List.set_cons_succ]
        refine wpAnyB_done (by kernel_rfl) (NoPanic.normal ?_) _
        have hL9 := (h8.stored (i + 1) (vInt a)).1
        rw [← List.map_set, ← List.map_set, ← List.take_set, ← List.take_set, ← HST.out] at hL9
        have hBB := (But.set gl W8 i (vInt bv)).trans (But.set gl _ (i + 1) (vInt a))
        rw [← HW8.out] at hBB
        have hR9 := hBB.own HR8.out (by intro e; have := (HR8.out.lt gl e).1; omega)
        have hC9 := hBB.has HC8.out (by omega)
        have hB9 := B8.trans (hBB.below (show w.heap.size ≤ gl by omega) (by have := HC8.out.lt; omega))
        have HL9 := Lib.hid hL9
        have HR9 := Lib.hid hR9
        have HC9 := Lib.hid hC9
        have HB9 := Lib.hid hB9
        clear hL9 hR9 hC9 hB9 hBB h8 HW8 q8 x8 x9 ya yb xa ql qx
        go_wp2
        go_roundw
        case rel => exact ⟨j + 1, some ⟨ga, 0, none⟩, cap1, by omega, by go_num, rfl, Lib.hid (by rw [HS.out, List.map_append]; first | exact HR9.out | exact own_below HR9.out (Below.drew (Below.refl _ _))), Lib.hid (by first | exact HL9.out | exact own_below HL9.out (Below.drew (Below.refl _ _))), Lib.hid (by first | exact HC9.out | exact HC9.out.drew), by first | exact HB9.out | exact HB9.out.drew⟩
        case measure => first | (simp [intOf]; done) | (simp [intOf]; omega)
    · obtain rfl : n = j := by omega
      go_wp2
      go_ret2
      exact ⟨X, n, cx, rfl, own_rd1 HR.out, wordTo_len n (by rw [HL.out]; exact Nat.le_refl _), hb⟩
end Go.Proofs.Ytpljaoagiaijiaa
