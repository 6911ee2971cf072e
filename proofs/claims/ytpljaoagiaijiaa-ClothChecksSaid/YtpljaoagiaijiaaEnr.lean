/-
  Contracts of torchonref17: ends of a valid cloth, Ends.
-/
import Derived.Test.YtpljaoagiaijiaaMkv
namespace Go.Proofs.Ytpljaoagiaijiaa
open Go.RowKit
theorem rdI_hasR {w : World} {g : Nat} {t : TypeId} {L : List Int} {rest : List Value} (h : Has w g t (L.map vInt ++ rest)) : RdI w w.heap.size (some ⟨g, 0, none⟩) L := fun k x hx => by
  refine ⟨g, 0, rfl, h.lt, ?_⟩
  have hk := lt_of_get hx
  rw [Nat.zero_add, h.cell, List.getElem?_append_left (by simpa using hk), List.getElem?_map, hx]; rfl
theorem ends_line {xs : List Q4} {T : Nat} (hT : T ≤ 48) (hx : ∀ x ∈ xs, 0 ≤ x.b ∧ x.b ≤ (T : Int) - 2) : ∀ k, k ≤ xs.length → ∀ L, endsTo xs (lineL T) k = some L → L = (lineTo xs (lineL 48) k).take T
  | 0, _, L, h => by
    have h : some (lineL T) = some L := h
    injection h with h
    rw [← h]
    show lineL T = (lineL 48).take T
    rw [lineL_take T hT]
  | k + 1, hk, L, h => by
    obtain ⟨x, hxk⟩ := get_of_lt (l := xs) (k := k) (by omega)
    have hb := hx x (mem_of_get hxk)
    cases hE : endsTo xs (lineL T) k with
    | none =>
      have := endsTo_none hE (k + 1) (Nat.le_succ _)
      rw [this] at h; cases h
    | some L' =>
      have ih := ends_line hT hx k (by omega) L' hE
      rw [endsTo_succ hE hxk, ih, endStep_line (by rw [lineTo_len, lineL_len]; exact hT) (by omega)] at h
      split at h
      · injection h with h
        rw [← h, lineTo_succ hxk]
      · cases h
set_option maxRecDepth 100000 in
set_option maxHeartbeats 2000000 in
theorem ends57 (t : Int) (A B : Option Addr) (n c m d : Nat) (xs : List Q4) (w : World) (ht : t ≤ 48) (ht2 : 2 ≤ t) (hn : n ≤ 20000) (hx : RdQ w w.heap.size A xs) (hl : xs.length = n) (hok : ∀ x ∈ xs, okC t x = true) (hend : endsOk t xs = true) :
    Calls Try.prog 57 #[vCloth t A n c B m d] w fun e w' => ∃ A' n' c', e = .returned (.tuple #[.slice A' n' c', .bool true]) ∧ RdI w' w'.heap.size A' ((lineTo xs (lineL 48) n).take t.toNat) ∧ ((lineTo xs (lineL 48) n).take t.toNat).length = n' ∧ Below w.heap.size w w' := by
  have HX := Lib.hid hx; clear hx
  have HL := Lib.hid hl; clear hl
  have HEND := Lib.hid hend; clear hend
  have HOK := Lib.hid hok; clear hok
  obtain ⟨T, rfl⟩ := Int.eq_ofNat_of_zero_le (show 0 ≤ t by omega)
  have K0 : Has (w.alloc (.cells #[.int .i64 (T : Int), .slice A n c, .slice B m d] 30)) w.heap.size 30 [.int .i64 (T : Int), .slice A n c, .slice B m d] := Has.new rfl
  go_enter Try.func57, Try.ntmps57
  go_wp2_with fail
  refine (line17 T _ (by omega) (by omega)).mono ?_
  rintro e w1 ⟨g, cg, rest, rfl, hg, hgc, hG, hb1⟩
  have B1 : Below w.heap.size w w1 := bvia (by go_grown) hb1
  have HK := Lib.hid (K0.below hb1 K0.lt)
  have hgw : w.heap.size < g := by simp at hg; omega
  clear K0 hb1 hg
  go_wp2
  go_loopw [5] (fun i wr => ∃ (k : Nat) (L : List Int), k ≤ n ∧ i = .int .i64 (k : Int) ∧ endsTo xs (lineL T) k = some L ∧ L.length = T ∧ Has wr g 3 (L.map vInt ++ rest) ∧ Has wr w.heap.size 30 [.int .i64 (T : Int), .slice A n c, .slice B m d] ∧ Below w.heap.size w wr) (fun i _ => n - (intOf i).toNat)
  case atStart => exact ⟨0, lineL T, Nat.zero_le _, rfl, rfl, lineL_len T, hG, HK.out, B1⟩
  case round =>
    clear hG B1
    obtain ⟨k, L, hk, rfl, hE, hLT, hG, hK, hb⟩ := hrel
    obtain ⟨wo, rfl⟩ : ∃ wo : World, wo = wr := ⟨_, rfl⟩
    have HE := Lib.hid hE; clear hE
    have HLT := Lib.hid hLT; clear hLT
    have a0 : wo.cell? ⟨w.heap.size, 0, none⟩ = some (.int .i64 (T : Int)) := hK.cell 0
    have a1 : wo.cell? ⟨w.heap.size, 1, none⟩ = some (.slice A n c) := hK.cell 1
    have q := hK.lt
    have qg := hG.lt
    have HKw := Lib.hid hK; clear hK
    have HGw := Lib.hid hG; clear hG
    by_cases hlt : k < n
    · obtain ⟨x, hx⟩ := get_of_lt (l := xs) (k := k) (by rw [HL.out]; exact hlt)
      obtain ⟨ba, o, rfl, hba, c0, c1, c2, c3⟩ := (HX.out.below hb hb.size) _ x hx
      have hxo := HOK.out x (mem_of_get hx)
      unfold okC at hxo
      simp at hxo
      obtain ⟨i, hi⟩ := Int.eq_ofNat_of_zero_le hxo.1.1
      have hiT : i + 1 < T := by have := hxo.1.2; omega
      obtain ⟨a, ha⟩ := get_of_lt (l := L) (k := i) (by rw [HLT.out]; omega)
      obtain ⟨b, hb'⟩ := get_of_lt (l := L) (k := i + 1) (by rw [HLT.out]; exact hiT)
      have HES : Hid (endsTo xs (lineL T) (k + 1) = if endOk a b x then some ((L.set i b).set (i + 1) a) else none) := by
        show endsTo xs (lineL T) (k + 1) = _
        rw [endsTo_succ HE.out hx]
        exact endStep_get (by rw [hi]; simp) ha hb'
      have r0 : wo.cell? ⟨g, i, none⟩ = some (.int .i64 a) := by
        rw [HGw.out.cell, List.getElem?_append_left (by simp [HLT.out]; omega), List.getElem?_map, ha]; rfl
      have r1 : wo.cell? ⟨g, i + 1, none⟩ = some (.int .i64 b) := by
        rw [HGw.out.cell, List.getElem?_append_left (by simp [HLT.out]; omega), List.getElem?_map, hb']; rfl
      rw [hi] at c1
      have HI := Lib.hid hi
      clear hx hxo ha hb' hi
      have i1 : IntKind.i64.wrap ((i : Int) + 1) = (i : Int) + 1 := IntWalk.i64_in _ (by omega)
      have i2 : ((i : Int) + 1).toNat = i + 1 := by omega
      have i3 : (0 : Int) ≤ (i : Int) + 1 := by omega
      have i4 : (i : Int) + 1 < (T : Int) := by omega
      have i5 : i < T := by omega
      go_wp2
      have x1 : (wo.alloc (.cells #[.int .i64 x.a, .int .i64 (i : Int), .int .i64 x.c, .int .i64 x.d] 70)).cell? ⟨wo.heap.size, 1, none⟩ = some (.int .i64 (i : Int)) := by go_simp
      have x2 : (wo.alloc (.cells #[.int .i64 x.a, .int .i64 (i : Int), .int .i64 x.c, .int .i64 x.d] 70)).cell? ⟨wo.heap.size, 2, none⟩ = some (.int .i64 x.c) := by go_simp
      have x3 : (wo.alloc (.cells #[.int .i64 x.a, .int .i64 (i : Int), .int .i64 x.c, .int .i64 x.d] 70)).cell? ⟨wo.heap.size, 3, none⟩ = some (.int .i64 x.d) := by go_simp
      have hBW : Below wo.heap.size wo (wo.alloc (.cells #[.int .i64 x.a, .int .i64 (i : Int), .int .i64 x.c, .int .i64 x.d] 70)) := by go_grown
      have qx : wo.heap.size < (wo.alloc (.cells #[.int .i64 x.a, .int .i64 (i : Int), .int .i64 x.c, .int .i64 x.d] 70)).heap.size := by simp
      generalize (wo.alloc (.cells #[.int .i64 x.a, .int .i64 (i : Int), .int .i64 x.c, .int .i64 x.d] 70)) = W1 at *
      have qg1 : g < W1.heap.size := by omega
      have s0 := (hBW.cell (p := ⟨g, i, none⟩) qg).trans r0
      have s1 := (hBW.cell (p := ⟨g, i + 1, none⟩) qg).trans r1
      clear r0 r1
      have hxc := fun (x : Ext W1) => x.cell
      refine wp_region_ext (by kernel_rfl) (by kernel_rfl) ?_
      repeat (go_big_quiet_step (fail))
      refine wpQuiet_nil ?_
      intro w2 hw'
      have hb2 := ext_below hw'
      clear hw' hxc
      have y1 := (hb2.cell (p := ⟨wo.heap.size, 1, none⟩) qx).trans x1
      have y2 := (hb2.cell (p := ⟨wo.heap.size, 2, none⟩) qx).trans x2
      have y3 := (hb2.cell (p := ⟨wo.heap.size, 3, none⟩) qx).trans x3
      have z0 := (hb2.cell (p := ⟨g, i, none⟩) qg1).trans s0
      have z1 := (hb2.cell (p := ⟨g, i + 1, none⟩) qg1).trans s1
      have hB2 : Below wo.heap.size wo w2 := bvia hBW hb2
      have B2 : Below w.heap.size w w2 := bvia hb hB2
      have G2 := Lib.hid (HGw.out.below hB2 qg)
      have K2 := Lib.hid (HKw.out.below hB2 q)
      have qx2 : wo.heap.size < w2.heap.size := by have := hb2.size; omega
      have qg2 := G2.out.lt
      have fg := G2.out.free i
      have fg1 := G2.out.free (i + 1)
      have nz1 : g ≠ wo.heap.size := by omega
      have nz2 : wo.heap.size ≠ g := by omega
      clear x1 x2 x3 s0 s1 hb2 hBW qx qg1 a0 a1
      by_cases hA : a = x.c ∧ b = x.d
      · obtain ⟨e1, e2⟩ := hA
        have f1 : (a != x.c) = false := by simpa using e1
        have f2 : (b != x.d) = false := by simpa using e2
        have hOKb : endOk a b x = true := by unfold endOk; rw [e1, e2]; simp
        clear e1 e2
        go_wp2
        have hEq : Hid (endsTo xs (lineL T) (k + 1) = some ((L.set i b).set (i + 1) a)) := by
          show endsTo xs (lineL T) (k + 1) = _
          rw [HES.out, if_pos hOKb]
        go_region_held3 (fun W => W.cell? ⟨wo.heap.size, 1, none⟩ = some (.int .i64 (i : Int))) (go_keep) (fail)
        go_wp2
        go_roundw
        case rel =>
          have h1 := ((G2.out.set i (.int .i64 b)).set (i + 1) (.int .i64 a))
          rw [row_set2 L rest b a (by rw [HLT.out]; exact hiT)] at h1
          refine ⟨k + 1, (L.set i b).set (i + 1) a, by omega, by go_num, hEq.out, by rw [List.length_set, List.length_set, HLT.out], h1.drew, ((K2.out.far (by omega) i _).far (by omega) (i + 1) _).drew, (((B2.setCell (by simp; omega) _).setCell (by simp; omega) _)).drew⟩
        case measure => first | (simp [intOf]; done) | (simp [intOf]; omega)
      · by_cases hB' : b = x.c ∧ a = x.d
        · obtain ⟨e1, e2⟩ := hB'
          have f0 : (a != x.c) = true := by simp; intro h; exact hA ⟨h, by rw [e1, ← h, e2]⟩
          have f1 : (b != x.c) = false := by simpa using e1
          have f2 : (a != x.d) = false := by simpa using e2
          have hOKb : endOk a b x = true := by unfold endOk; rw [e1, e2]; simp
          clear e1 e2 hA
          go_wp2
          have hEq : Hid (endsTo xs (lineL T) (k + 1) = some ((L.set i b).set (i + 1) a)) := by
            show endsTo xs (lineL T) (k + 1) = _
            rw [HES.out, if_pos hOKb]
          go_region_held3 (fun W => W.cell? ⟨wo.heap.size, 1, none⟩ = some (.int .i64 (i : Int))) (go_keep) (fail)
          go_wp2
          go_roundw
          case rel =>
            have h1 := ((G2.out.set i (.int .i64 b)).set (i + 1) (.int .i64 a))
            rw [row_set2 L rest b a (by rw [HLT.out]; exact hiT)] at h1
            refine ⟨k + 1, (L.set i b).set (i + 1) a, by omega, by go_num, hEq.out, by rw [List.length_set, List.length_set, HLT.out], h1.drew, ((K2.out.far (by omega) i _).far (by omega) (i + 1) _).drew, (((B2.setCell (by simp; omega) _).setCell (by simp; omega) _)).drew⟩
          case measure => first | (simp [intOf]; done) | (simp [intOf]; omega)
        · have hF : Hid (endsOk (T : Int) xs = false) := by
            show endsOk (T : Int) xs = false
            have : endOk a b x = false := by
              unfold endOk
              simp only [Bool.or_eq_false_iff, Bool.and_eq_false_iff, beq_eq_false_iff_ne]
              omega
            unfold endsOk
            rw [Int.toNat_natCast, endsTo_none (by rw [HES.out, this]; rfl) xs.length (by rw [HL.out]; omega)]
            rfl
          have h1 := HEND.out
          rw [hF.out] at h1
          cases h1
    · obtain rfl : k = n := by omega
      have hLL : L = (lineTo xs (lineL 48) k).take T := ends_line (by omega) (fun x hx => by have := HOK.out x hx; unfold okC at this; simp at this; omega) k (by rw [HL.out]; exact Nat.le_refl _) L HE.out
      have hTT : ((T : Nat) : Int).toNat = T := by simp
      have HR := Lib.hid (rdI_hasR HGw.out)
      have HLT2 := HLT.out
      rw [hLL] at HR HLT2
      have HLT3 := Lib.hid HLT2
      clear hLL HLT2
      go_wp2
      go_ret2
      exact ⟨some ⟨g, 0, none⟩, T, cg, rfl, by rw [hTT]; exact HR.out, by rw [hTT]; exact HLT3.out, hb⟩
theorem ckE_ends {t : Int} {xs ps : List Q4} (h : ckE t xs ps = 0) : 2 ≤ t ∧ t ≤ 48 ∧ xs.length ≤ 20000 ∧ (∀ x ∈ xs, okC t x = true) ∧ endsOk t xs = true := by
  unfold ckE at h
  split at h
  · omega
  rename_i h1
  split at h
  · omega
  rename_i h2
  split at h
  · omega
  rename_i h3
  have hn : numsOk t xs ps = true := by simpa using h2
  obtain ⟨g1, g2, _⟩ := numsOk_parts hn
  exact ⟨g1, by omega, by omega, g2, by simpa using h3⟩
set_option maxRecDepth 100000 in
set_option maxHeartbeats 2000000 in
theorem ends31 (t : Int) (A B : Option Addr) (n c m d : Nat) (xs ps : List Q4) (w : World) (hn : n ≤ 9223372036854775807) (hm : m ≤ 9223372036854775807) (hx : RdQ w w.heap.size A xs) (hp : RdQ w w.heap.size B ps) (hl : xs.length = n) (hl' : ps.length = m) (ht0 : -9223372036854775808 ≤ t) :
    Calls Try.prog 31 #[vCloth t A n c B m d] w fun e w' => ∃ A' n' c', e = .returned (.tuple #[.slice A' n' c', .int .i64 (ckE t xs ps)]) ∧ RdI w' w'.heap.size A' (endsR t xs ps) ∧ (endsR t xs ps).length = n' ∧ Below w.heap.size w w' := by
  have C1 := Lib.hid (fun (W : World) (hb : Below w.heap.size w W) => check17 t A B n c m d xs ps W hn hm (hx.up hb) (hp.up hb) hl hl' ht0)
  have K0 : Has (w.alloc (.cells #[.int .i64 t, .slice A n c, .slice B m d] 30)) w.heap.size 30 [.int .i64 t, .slice A n c, .slice B m d] := Has.new rfl
  by_cases hE : ckE t xs ps = 0
  · obtain ⟨g1, g2, g3, g4, g5⟩ := ckE_ends hE
    have hR : endsR t xs ps = (lineTo xs (lineL 48) n).take t.toNat := by unfold endsR; rw [if_pos hE, hl]
    have C2 := Lib.hid (fun (W : World) (hb : Below w.heap.size w W) => ends57 t A B n c m d xs W g2 g1 (by omega) (hx.up hb) hl g4 g5)
    rw [hE] at C1
    rw [hE, hR]
    clear hx hp hl hl' hE g1 g2 g3 g4 g5 hR
    go_enter Try.func31, Try.ntmps31
    go_wp2_with fail
    refine (C1.out _ (by go_grown)).mono ?_
    rintro e w1 ⟨rfl, hb1⟩
    have B1 : Below w.heap.size w w1 := bvia (show Below w.heap.size w _ by go_grown) hb1
    have HB := K0.below hb1 K0.lt
    have a0 : w1.cell? ⟨w.heap.size, 0, none⟩ = some (.int .i64 t) := HB.cell 0
    have a1 : w1.cell? ⟨w.heap.size, 1, none⟩ = some (.slice A n c) := HB.cell 1
    have a2 : w1.cell? ⟨w.heap.size, 2, none⟩ = some (.slice B m d) := HB.cell 2
    have q := HB.lt
    clear HB K0 hb1 C1
    go_wp2_with fail
    refine (C2.out _ B1).mono ?_
    rintro e w2 ⟨A2, n2, c2, rfl, r2, l2, hb2⟩
    have HR := Lib.hid r2
    clear a0 a1 a2 q r2 C2
    go_wp2
    go_ret2
    exact ⟨A2, n2, c2, rfl, HR.out, l2, bvia B1 hb2⟩
  · have hR : endsR t xs ps = [] := by unfold endsR; rw [if_neg hE]
    rw [hR]
    generalize ckE t xs ps = r at *
    have hr : (r != 0) = true := by simpa using hE
    clear hE hR hx hp hl hl'
    go_enter Try.func31, Try.ntmps31
    go_wp2_with fail
    refine (C1.out _ (by go_grown)).mono ?_
    rintro e w1 ⟨rfl, hb1⟩
    have B1 : Below w.heap.size w w1 := bvia (show Below w.heap.size w _ by go_grown) hb1
    clear hb1 C1
    go_wp2
    go_ret2
    exact ⟨none, 0, 0, rfl, Rd1.nil _ _ _ _, rfl, B1⟩
end Go.Proofs.Ytpljaoagiaijiaa
