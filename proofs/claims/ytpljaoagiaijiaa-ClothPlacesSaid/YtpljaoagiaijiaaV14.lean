/-
  Contracts of torchonref17: ends of a valid cloth, Ends.
-/
import Derived.Test.YtpljaoagiaijiaaV9
import Derived.Test.YtpljaoagiaijiaaV12
import Derived.Test.YtpljaoagiaijiaaV13
namespace Go.Proofs.Ytpljaoagiaijiaa
open Go.RowKit
theorem rdI_hasR {w : World} {g : Nat} {t : TypeId} {L : List Int} {rest : List Value} (h : Has w g t (L.map vInt ++ rest)) : RdI w w.heap.size (some ⟨g, 0, none⟩) L := fun k x hx => by
  refine ⟨g, 0, rfl, h.lt, ?_⟩
  have hk := lt_of_get hx
  rw [Nat.zero_add, h.cell, List.getElem?_append_left (by simpa using hk), List.getElem?_map, hx]; rfl
theorem ends_line {xs : List Q4} {T : Nat} (hT : T ≤ 48) (hx : ∀ x ∈ xs, 0 ≤ x.b ∧ x.b ≤ (T : Int) - 2) : ∀ k, k ≤ xs.length → ∀ L, endsTo xs (lineL T) k = some L → L = (lineTo xs (lineL 48) k).take T
  | 0, _, L, h => by
    have h : some (lineL T) = some L := h
    injection h with h
    rw [← h]
    show lineL T = (lineL 48).take T
    rw [lineL_take T hT]
  | k + 1, hk, L, h => by
    obtain ⟨x, hxk⟩ := get_of_lt (l := xs) (k := k) (by omega)
    have hb := hx x (mem_of_get hxk)
    cases hE : endsTo xs (lineL T) k with
    | none =>
      have := endsTo_none hE (k + 1) (Nat.le_succ _)
      rw [this] at h; cases h
    | some L' =>
      have ih := ends_line hT hx k (by omega) L' hE
      rw [endsTo_succ hE hxk, ih, endStep_line (by rw [lineTo_len, lineL_len]; exact hT) (by omega)] at h
      split at h
      · injection h with h
        rw [← h, lineTo_succ hxk]
      · cases h
set_option maxRecDepth 100000 in
set_option maxHeartbeats 2000000 in
theorem ends57 (t : Int) (A B : Option Addr) (n c m d : Nat) (xs : List Q4) (w : World) (ht : t ≤ 48) (ht2 : 2 ≤ t) (hn : n ≤ 20000) (hx : RdQ w w.heap.size A xs) (hl : xs.length = n) (hok : ∀ x ∈ xs, okC t x = true) (hend : endsOk t xs = true) :
    Calls Try.prog 57 #[vCloth t A n c B m d] w fun e w' => ∃ A' n' c', e = .returned (.tuple #[.slice A' n' c', .bool true]) ∧ RdI w' w'.heap.size A' ((lineTo xs (lineL 48) n).take t.toNat) ∧ ((lineTo xs (lineL 48) n).take t.toNat).length = n' ∧ Below w.heap.size w w' := by
  have HX := Lib.hid hx; clear hx
  have HL := Lib.hid hl; clear hl
  have HEND := Lib.hid hend; clear hend
  have HOK := Lib.hid hok; clear hok
  obtain ⟨T, rfl⟩ := Int.eq_ofNat_of_zero_le (show 0 ≤ t by omega)
  have K0 : Has (w.alloc (.cells #[.int .i64 (T : Int), .slice A n c, .slice B m d] 30)) w.heap.size 30 [.int .i64 (T : Int), .slice A n c, .slice B m d] := Has.new rfl
  go_enter Try.func57, Try.ntmps57
  go_wp2_with fail
  refine (line17 T _ (by omega) (by omega)).mono ?_
  rintro e w1 ⟨g, cg, rest, rfl, hg, hgc, hG, hb1⟩
  have B1 : Below w.heap.size w w1 := bvia (by go_grown) hb1
  have HK := Lib.hid (K0.below hb1 K0.lt)
  have hgw : w.heap.size < g := by simp at hg; omega
  clear K0 hb1 hg
  go_wp2
  go_loopw [5] (fun i wr => ∃ (k : Nat) (L : List Int), k ≤ n ∧ i = .int .i64 (k : Int) ∧ endsTo xs (lineL T) k = some L ∧ L.length = T ∧ Has wr g 3 (L.map vInt ++ rest) ∧ Has wr w.heap.size 30 [.int .i64 (T : Int), .slice A n c, .slice B m d] ∧ Below w.heap.size w wr) (fun i _ => n - (intOf i).toNat)
  case atStart => exact ⟨0, lineL T, Nat.zero_le _, rfl, rfl, lineL_len T, hG, HK.out, B1⟩
  case round =>
    clear hG B1
    obtain ⟨k, L, hk, rfl, hE, hLT, hG, hK, hb⟩ := hrel
    obtain ⟨wo, rfl⟩ : ∃ wo : World, wo = wr := ⟨_, rfl⟩
    have HE := Lib.hid hE; clear hE
    have HLT := Lib.hid hLT; clear hLT
    have a0 : wo.cell? ⟨w.heap.size, 0, none⟩ = some (.int .i64 (T : Int)) := hK.cell 0
    have a1 : wo.cell? ⟨w.heap.size, 1, none⟩ = some (.slice A n c) := hK.cell 1
    have q := hK.lt
    have qg := hG.lt
    have HKw := Lib.hid hK; clear hK
    have HGw := Lib.hid hG; clear hG
    by_cases hlt : k < n
    · obtain ⟨x, hx⟩ := get_of_lt (l := xs) (k := k) (by rw [HL.out]; exact hlt)
      obtain ⟨ba, o, rfl, hba, c0, c1, c2, c3⟩ := (HX.out.below hb hb.size) _ x hx
      have hxo := HOK.out x (mem_of_get hx)
      unfold okC at hxo
      simp at hxo
      obtain ⟨i, hi⟩ := Int.eq_ofNat_of_zero_le hxo.1.1
      have hiT : i + 1 < T := by have := hxo.1.2; omega
      obtain ⟨a, ha⟩ := get_of_lt (l := L) (k := i) (by rw [HLT.out]; omega)
      obtain ⟨b, hb'⟩ := get_of_lt (l := L) (k := i + 1) (by rw [HLT.out]; exact hiT)
      have HES : Hid (endsTo xs (lineL T) (k + 1) = if endOk a b x then some ((L.set i b).set (i + 1) a) else none) := by
        show endsTo xs (lineL T) (k + 1) = _
        rw [endsTo_succ HE.out hx]
        exact endStep_get (by rw [hi]; simp) ha hb'
      have r0 : wo.cell? ⟨g, i, none⟩ = some (.int .i64 a) := by
        rw [HGw.out.cell, List.getElem?_append_left (by simp [HLT.out]; omega), List.getElem?_map, ha]; rfl
      have r1 : wo.cell? ⟨g, i + 1, none⟩ = some (.int .i64 b) := by
        rw [HGw.out.cell, List.getElem?_append_left (by simp [HLT.out]; omega), List.getElem?_map, hb']; rfl
      rw [hi] at c1
      have HI := Lib.hid hi
      clear hx hxo ha hb' hi
      have i1 : IntKind.i64.wrap ((i : Int) + 1) = (i : Int) + 1 := IntWalk.i64_in _ (by omega)
      have i2 : ((i : Int) + 1).toNat = i + 1 := by omega
      have i3 : (0 : Int) ≤ (i : Int) + 1 := by omega
      have i4 : (i : Int) + 1 < (T : Int) := by omega
      have i5 : i < T := by omega
      go_wp2
      have x1 : (wo.alloc (.cells #[.int .i64 x.a, .int .i64 (i : Int), .int .i64 x.c, .int .i64 x.d] 70)).cell? ⟨wo.heap.size, 1, none⟩ = some (.int .i64 (i : Int)) := by go_simp
      have x2 : (wo.alloc (.cells #[.int .i64 x.a, .int .i64 (i : Int), .int .i64 x.c, .int .i64 x.d] 70)).cell? ⟨wo.heap.size, 2, none⟩ = some (.int .i64 x.c) := by go_simp
      have x3 : (wo.alloc (.cells #[.int .i64 x.a, .int .i64 (i : Int), .int .i64 x.c, .int .i64 x.d] 70)).cell? ⟨wo.heap.size, 3, none⟩ = some (.int .i64 x.d) := by go_simp
      have hBW : Below wo.heap.size wo (wo.alloc (.cells #[.int .i64 x.a, .int .i64 (i : Int), .int .i64 x.c, .int .i64 x.d] 70)) := by go_grown
      have qx : wo.heap.size < (wo.alloc (.cells #[.int .i64 x.a, .int .i64 (i : Int), .int .i64 x.c, .int .i64 x.d] 70)).heap.size := by simp
      generalize (wo.alloc (.cells #[.int .i64 x.a, .int .i64 (i : Int), .int .i64 x.c, .int .i64 x.d] 70)) = W1 at *
      have qg1 : g < W1.heap.size := by omega
      have s0 := (hBW.cell (p := ⟨g, i, none⟩) qg).trans r0
      have s1 := (hBW.cell (p := ⟨g, i + 1, none⟩) qg).trans r1
      clear r0 r1
      have hxc := fun (x : Ext W1) => x.cell
      refine wp_region_ext (by kernel_rfl) (by kernel_rfl) ?_
      repeat (go_big_quiet_step (fail))
      refine wpQuiet_nil ?_
      intro w2 hw'
      have hb2 := ext_below hw'
      clear hw' hxc
      have y1 := (hb2.cell (p := ⟨wo.heap.size, 1, none⟩) qx).trans x1
      have y2 := (hb2.cell (p := ⟨wo.heap.size, 2, none⟩) qx).trans x2
      have y3 := (hb2.cell (p := ⟨wo.heap.size, 3, none⟩) qx).trans x3
      have z0 := (hb2.cell (p := ⟨g, i, none⟩) qg1).trans s0
      have z1 := (hb2.cell (p := ⟨g, i + 1, none⟩) qg1).trans s1
      have hB2 : Below wo.heap.size wo w2 := bvia hBW hb2
      have B2 : Below w.heap.size w w2 := bvia hb hB2
      have G2 := Lib.hid (HGw.out.below hB2 qg)
      have K2 := Lib.hid (HKw.out.below hB2 q)
      have qx2 : wo.heap.size < w2.heap.size := by have := hb2.size; omega
      have qg2 := G2.out.lt
      have fg := G2.out.free i
      have fg1 := G2.out.free (i + 1)
      have nz1 : g ≠ wo.heap.size := by omega
      have nz2 : wo.heap.size ≠ g := by omega
      clear x1 x2 x3 s0 s1 hb2 hBW qx qg1 a0 a1
      by_cases hA : a = x.c ∧ b = x.d
      · obtain ⟨e1, e2⟩ := hA
        have f1 : (a != x.c) = false := by simpa using e1
        have f2 : (b != x.d) = false := by simpa using e2
        have hOKb : endOk a b x = true := by unfold endOk; rw [e1, e2]; simp
        clear e1 e2
        go_wp2
        have hEq : Hid (endsTo xs (lineL T) (k + 1) = some ((L.set i b).set (i + 1) a)) := by
          show endsTo xs (lineL T) (k + 1) = _
          rw [HES.out, if_pos hOKb]
        go_region_held3 (fun W => W.cell? ⟨wo.heap.size, 1, none⟩ = some (.int .i64 (i : Int))) (go_keep) (fail)
        go_wp2
        go_roundw
        case rel =>
          have h1 := ((G2.out.set i (.int .i64 b)).set (i + 1) (.int .i64 a))
          rw [row_set2 L rest b a (by rw [HLT.out]; exact hiT)] at h1
          refine ⟨k + 1, (L.set i b).set (i + 1) a, by omega, by go_num, hEq.out, by rw [List.length_set, List.length_set, HLT.out], h1.drew, ((K2.out.far (by omega) i _).far (by omega) (i + 1) _).drew, (((B2.setCell (by simp; omega) _).setCell (by simp; omega) _)).drew⟩
        case measure => first | (simp [intOf]; done) | (simp [intOf]; omega)
      · by_cases hB' : b = x.c ∧ a = x.d
        · obtain ⟨e1, e2⟩ := hB'
          have f0 : (a != x.c) = true := by simp; intro h; exact hA ⟨h, by rw [e1, ← h, e2]⟩
          have f1 : (b != x.c) = false := by simpa using e1
          have f2 : (a != x.d) = false := by simpa using e2
          have hOKb : endOk a b x = true := by unfold endOk; rw [e1, e2]; simp
          clear e1 e2 hA
          go_wp2
          have hEq : Hid (endsTo xs (lineL T) (k + 1) = some ((L.set i b).set (i + 1) a)) := by
            show endsTo xs (lineL T) (k + 1) = _
            rw [HES.out, if_pos hOKb]
          go_region_held3 (fun W => W.cell? ⟨wo.heap.size, 1, none⟩ = some (.int .i64 (i : Int))) (go_keep) (fail)
          go_wp2
          go_roundw
          case rel =>
            have h1 := ((G2.out.set i (.int .i64 b)).set (i + 1) (.int .i64 a))
            rw [row_set2 L rest b a (by rw [HLT.out]; exact hiT)] at h1
            refine ⟨k + 1, (L.set i b).set (i + 1) a, by omega, by go_num, hEq.out, by rw [List.length_set, List.length_set, HLT.out], h1.drew, ((K2.out.far (by omega) i _).far (by omega) (i + 1) _).drew, (((B2.setCell (by simp; omega) _).setCell (by simp; omega) _)).drew⟩
          case measure => first | (simp [intOf]; done) | (simp [intOf]; omega)
        · have hF : Hid (endsOk (T : Int) xs = false) := by
            show endsOk (T : Int) xs = false
            have : endOk a b x = false := by
              unfold endOk
              simp only [Bool.or_eq_false_iff, Bool.and_eq_false_iff, beq_eq_false_iff_ne]
              omega
            unfold endsOk
            rw [Int.toNat_natCast, endsTo_none (by rw [HES.out, this]; rfl) xs.length (by rw [HL.out]; omega)]
            rfl
          have h1 := HEND.out
          rw [hF.out] at h1
          cases h1
    · obtain rfl : k = n := by omega
      have hLL : L = (lineTo xs (lineL 48) k).take T := ends_line (by omega) (fun x hx => by have := HOK.out x hx; unfold okC at this; simp at this; omega) k (by rw [HL.out]; exact Nat.le_refl _) L HE.out
      have hTT : ((T : Nat) : Int).toNat = T := by simp
      have HR := Lib.hid (rdI_hasR HGw.out)
      have HLT2 := HLT.out
      rw [hLL] at HR HLT2
      have HLT3 := Lib.hid HLT2
      clear hLL HLT2
      go_wp2
      go_ret2
      exact ⟨some ⟨g, 0, none⟩, T, cg, rfl, by rw [hTT]; exact HR.out, by rw [hTT]; exact HLT3.out, hb⟩
theorem ckE_ends {t : Int} {xs ps : List Q4} (h : ckE t xs ps = 0) : 2 ≤ t ∧ t ≤ 48 ∧ xs.length ≤ 20000 ∧ (∀ x ∈ xs, okC t x = true) ∧ endsOk t xs = true := by
  unfold ckE at h
  split at h
  · omega
  rename_i h1
  split at h
  · omega
  rename_i h2
  split at h
  · omega
  rename_i h3
  have hn : numsOk t xs ps = true := by simpa using h2
  obtain ⟨g1, g2, _⟩ := numsOk_parts hn
  exact ⟨g1, by omega, by omega, g2, by simpa using h3⟩
set_option maxRecDepth 100000 in
set_option maxHeartbeats 2000000 in
theorem ends31 (t : Int) (A B : Option Addr) (n c m d : Nat) (xs ps : List Q4) (w : World) (hn : n ≤ 9223372036854775807) (hm : m ≤ 9223372036854775807) (hx : RdQ w w.heap.size A xs) (hp : RdQ w w.heap.size B ps) (hl : xs.length = n) (hl' : ps.length = m) (ht0 : -9223372036854775808 ≤ t) :
    Calls Try.prog 31 #[vCloth t A n c B m d] w fun e w' => ∃ A' n' c', e = .returned (.tuple #[.slice A' n' c', .int .i64 (ckE t xs ps)]) ∧ RdI w' w'.heap.size A' (endsR t xs ps) ∧ (endsR t xs ps).length = n' ∧ Below w.heap.size w w' := by
  have C1 := Lib.hid (fun (W : World) (hb : Below w.heap.size w W) => check17 t A B n c m d xs ps W hn hm (hx.up hb) (hp.up hb) hl hl' ht0)
  have K0 : Has (w.alloc (.cells #[.int .i64 t, .slice A n c, .slice B m d] 30)) w.heap.size 30 [.int .i64 t, .slice A n c, .slice B m d] := Has.new rfl
  by_cases hE : ckE t xs ps = 0
  · obtain ⟨g1, g2, g3, g4, g5⟩ := ckE_ends hE
    have hR : endsR t xs ps = (lineTo xs (lineL 48) n).take t.toNat := by unfold endsR; rw [if_pos hE, hl]
    have C2 := Lib.hid (fun (W : World) (hb : Below w.heap.size w W) => ends57 t A B n c m d xs W g2 g1 (by omega) (hx.up hb) hl g4 g5)
    rw [hE] at C1
    rw [hE, hR]
    clear hx hp hl hl' hE g1 g2 g3 g4 g5 hR
    go_enter Try.func31, Try.ntmps31
    go_wp2_with fail
    refine (C1.out _ (by go_grown)).mono ?_
    rintro e w1 ⟨rfl, hb1⟩
    have B1 : Below w.heap.size w w1 := bvia (show Below w.heap.size w _ by go_grown) hb1
    have HB := K0.below hb1 K0.lt
    have a0 : w1.cell? ⟨w.heap.size, 0, none⟩ = some (.int .i64 t) := HB.cell 0
    have a1 : w1.cell? ⟨w.heap.size, 1, none⟩ = some (.slice A n c) := HB.cell 1
    have a2 : w1.cell? ⟨w.heap.size, 2, none⟩ = some (.slice B m d) := HB.cell 2
    have q := HB.lt
    clear HB K0 hb1 C1
    go_wp2_with fail
    refine (C2.out _ B1).mono ?_
    rintro e w2 ⟨A2, n2, c2, rfl, r2, l2, hb2⟩
    have HR := Lib.hid r2
    clear a0 a1 a2 q r2 C2
    go_wp2
    go_ret2
    exact ⟨A2, n2, c2, rfl, HR.out, l2, bvia B1 hb2⟩
  · have hR : endsR t xs ps = [] := by unfold endsR; rw [if_neg hE]
    rw [hR]
    generalize ckE t xs ps = r at *
    have hr : (r != 0) = true := by simpa using hE
    clear hE hR hx hp hl hl'
    go_enter Try.func31, Try.ntmps31
    go_wp2_with fail
    refine (C1.out _ (by go_grown)).mono ?_
    rintro e w1 ⟨rfl, hb1⟩
    have B1 : Below w.heap.size w w1 := bvia (show Below w.heap.size w _ by go_grown) hb1
    clear hb1 C1
    go_wp2
    go_ret2
    exact ⟨none, 0, 0, rfl, Rd1.nil _ _ _ _, rfl, B1⟩
end Go.Proofs.Ytpljaoagiaijiaa
/-
  Contract of cloth.Linked.
-/
namespace Go.Proofs.Ytpljaoagiaijiaa
open Go.RowKit
def linkR (t : Int) (xs ps : List Q4) : List (List Int) := if ckE t xs ps = 0 then setsR xs t.toNat else []
set_option maxRecDepth 100000 in
set_option maxHeartbeats 2000000 in
theorem linked30a (t : Int) (A B : Option Addr) (n c m d : Nat) (xs ps : List Q4) (w : World) (hn : n ≤ 9223372036854775807) (hm : m ≤ 9223372036854775807) (hx : RdQ w w.heap.size A xs) (hp : RdQ w w.heap.size B ps) (hl : xs.length = n) (hl' : ps.length = m) (ht0 : -9223372036854775808 ≤ t) :
    Calls Try.prog 30 #[vCloth t A n c B m d] w fun e w' => ∃ A' n' c', e = .returned (.tuple #[.slice A' n' c', .int .i64 (ckE t xs ps)]) ∧ RdRs w' w'.heap.size A' (linkR t xs ps) ∧ (linkR t xs ps).length = n' ∧ Below w.heap.size w w' := by
  by_cases hE : ckE t xs ps = 0
  · obtain ⟨T, rfl⟩ := Int.eq_ofNat_of_zero_le (show 0 ≤ t by have := (ckE_ok hE).1; omega)
    have h := linked30 T A B n c m d xs ps w hn hm hx hp hl hl' hE delSays
    have hR : linkR (T : Int) xs ps = setsR xs T := by unfold linkR; rw [if_pos hE]; simp
    rw [hE, hR]
    exact h
  · have C1 := Lib.hid (fun (W : World) (hb : Below w.heap.size w W) => check42 t A B n c m d xs ps W hn hm (hx.up hb) (hp.up hb) hl hl' ht0)
    have hR : linkR t xs ps = [] := by unfold linkR; rw [if_neg hE]
    rw [hR]
    generalize ckE t xs ps = r at *
    have hr : (r != 0) = true := by simpa using hE
    clear hE hR hx hp hl hl'
    go_enter Try.func30, Try.ntmps30
    go_wp2_with fail
    refine (C1.out _ (by go_grown)).mono ?_
    rintro e w1 ⟨rfl, hb1⟩
    have B1 : Below w.heap.size w w1 := bvia (show Below w.heap.size w _ by go_grown) hb1
    clear hb1 C1
    go_wp2
    go_ret2
    exact ⟨none, 0, 0, rfl, fun k r hr => by simp at hr, rfl, B1⟩
/-- the two threads of a crossing of a valid cloth are two -/
theorem lineTo_gd {xs : List Q4} (hx : ∀ x ∈ xs, 0 ≤ x.b ∧ x.b ≤ 46) : ∀ (k : Nat), (∀ (i j : Nat) (v : Int), (lineTo xs (lineL 48) k)[i]? = some v → (lineTo xs (lineL 48) k)[j]? = some v → i = j)
  | 0, i, j, v, h1, h2 => by
    have h1 : (lineL 48)[i]? = some v := h1
    have h2 : (lineL 48)[j]? = some v := h2
    have k1 := lt_of_get h1
    have k2 := lt_of_get h2
    rw [lineL_len] at k1 k2
    rw [lineL_get k1] at h1
    rw [lineL_get k2] at h2
    injection h1 with h1; injection h2 with h2; omega
  | k + 1, i, j, v, h1, h2 => by
    have ih := lineTo_gd hx k
    cases h : xs[k]? with
    | none =>
      have e : lineTo xs (lineL 48) (k + 1) = lineTo xs (lineL 48) k := by
        show (match xs[k]? with | some x => swapL (lineTo xs (lineL 48) k) x | none => lineTo xs (lineL 48) k) = _
        rw [h]
      rw [e] at h1 h2
      exact ih i j v h1 h2
    | some x =>
      obtain ⟨x0, x1⟩ := hx x (mem_of_get h)
      obtain ⟨t, ht⟩ := Int.eq_ofNat_of_zero_le x0
      obtain ⟨va, hva⟩ := get_of_lt (l := lineTo xs (lineL 48) k) (k := t) (by rw [lineTo_len, lineL_len]; omega)
      obtain ⟨vb, hvb⟩ := get_of_lt (l := lineTo xs (lineL 48) k) (k := t + 1) (by rw [lineTo_len, lineL_len]; omega)
      rw [lineTo_next h ht hva hvb] at h1 h2
      rw [set2_get hva hvb] at h1 h2
      have := congrArg (tr t) (ih _ _ v h1 h2)
      rwa [tr_tr, tr_tr] at this
theorem cross_ne {T : Nat} {xs ps : List Q4} (hE : ckE (T : Int) xs ps = 0) : ∀ x ∈ xs, x.c ≠ x.d := fun x hm => by
  obtain ⟨g1, g2, g3, g4, g5⟩ := ckE_ends hE
  have hb : ∀ x ∈ xs, 0 ≤ x.b ∧ x.b ≤ (T : Int) - 2 := fun x hx => by have := g4 x hx; unfold okC at this; simp at this; omega
  obtain ⟨k, hk, rfl⟩ := List.mem_iff_getElem.1 hm
  have hx := List.getElem?_eq_getElem hk
  unfold endsOk at g5
  rw [Int.toNat_natCast] at g5
  have hk1 : ∃ L, endsTo xs (lineL T) (k + 1) = some L := by
    cases h : endsTo xs (lineL T) (k + 1) with
    | some L => exact ⟨L, rfl⟩
    | none => rw [endsTo_none h _ (by omega)] at g5; cases g5
  have hk0 : ∃ L, endsTo xs (lineL T) k = some L := by
    cases h : endsTo xs (lineL T) k with
    | some L => exact ⟨L, rfl⟩
    | none => rw [endsTo_none h _ (by omega)] at g5; cases g5
  obtain ⟨L1, h1⟩ := hk1
  obtain ⟨L0, h0⟩ := hk0
  have hL0 := ends_line (by omega) hb k (by omega) L0 h0
  obtain ⟨b0, b1⟩ := hb _ hm
  obtain ⟨t, ht⟩ := Int.eq_ofNat_of_zero_le b0
  obtain ⟨va, hva⟩ := get_of_lt (l := lineTo xs (lineL 48) k) (k := t) (by rw [lineTo_len, lineL_len]; omega)
  obtain ⟨vb, hvb⟩ := get_of_lt (l := lineTo xs (lineL 48) k) (k := t + 1) (by rw [lineTo_len, lineL_len]; omega)
  have hne : va ≠ vb := fun e => by
    have := lineTo_gd (fun x hx => by have := hb x hx; omega) k t (t + 1) va hva (e ▸ hvb)
    omega
  rw [endsTo_succ h0 hx, hL0, endStep_get (i := t) (by rw [ht]; simp) (by rw [List.getElem?_take, if_pos (by omega)]; exact hva) (by rw [List.getElem?_take, if_pos (by omega)]; exact hvb)] at h1
  split at h1
  · rename_i hok
    unfold endOk at hok
    simp only [Bool.or_eq_true, Bool.and_eq_true, beq_iff_eq] at hok
    rcases hok with ⟨e1, e2⟩ | ⟨e1, e2⟩
    · rw [← e1, ← e2]; exact hne
    · rw [← e1, ← e2]; exact Ne.symm hne
  · cases h1
end Go.Proofs.Ytpljaoagiaijiaa
/-
  Memory words for torchonref17.Make.
-/
namespace Go.Proofs.Ytpljaoagiaijiaa
open Go.RowKit
structure MkR (V W : World) (gc gl cl m : Nat) (t : Int) (s : Mk) (X : Option Addr) (nx cx : Nat) (P : Option Addr) (np cp : Nat) : Prop where
  c : Has W gc 30 [.int .i64 t, .slice X nx cx, .slice P np cp]
  l : W.ownsRow (gc + 1) 3 1 (.slice (some ⟨gl, 0, none⟩) m cl) m ((s.l.take m).map vInt)
  ox : W.ownsRow (gl + 1) 70 4 (.slice X nx cx) nx (qsC s.xs)
  op : W.ownsRow (gl + 1) 72 4 (.slice P np cp) np (qsC s.ps)
  b : Below gc V W
  v : gc ≤ V.heap.size
  sz : gl + 1 ≤ W.heap.size
  nxs : s.xs.length = nx
  nps : s.ps.length = np
section
variable {V W W' : World} {gc gl cl m : Nat} {t : Int} {s : Mk} {X P : Option Addr} {nx cx np cp : Nat} {gw : Nat} {x : Wk}
theorem MkR.lt (h : MkR V W gc gl cl m t s X nx cx P np cp) : gc < gl := by
  have := (h.l.lt gl rfl).1; omega
theorem MkR.below (h : MkR V W gc gl cl m t s X nx cx P np cp) (k : Below W.heap.size W W') : MkR V W' gc gl cl m t s X nx cx P np cp :=
  ⟨h.c.below k h.c.lt, own_below h.l k, own_below h.ox k, own_below h.op k, h.b.trans (k.mono (Nat.le_of_lt h.c.lt)), h.v, Nat.le_trans h.sz k.size, h.nxs, h.nps⟩
theorem kept_of {base base' : Nat} {e e' : TypeId} {size size' n n' : Nat} {v v' : Value} {xs xs' : List Value} (h : W.ownsRow base e size v n xs) (h' : W.ownsRow base' e' size' v' n' xs') (hne : e ≠ e') (k : W.grownBy W' v'.ownBlock) : W'.ownsRow base e size v n xs :=
  h.kept k (by cases hv : v.ownBlock with | none => exact .inl rfl | some g => exact .inr (fun e => own_apart h h' hne hv e.symm))
/-- a pin is put behind its row, and the slice into the cloth -/
theorem MkR.pinned (h : MkR V W gc gl cl m t s X nx cx P np cp) {P' : Option Addr} {cp' : Nat} (y : Q4) (ho : W'.ownsRow (gl + 1) 72 4 (.slice P' (np + 1) cp') (np + 1) (qsC s.ps ++ q4C y)) (k : W.grownBy W' (Value.slice P np cp).ownBlock) :
    MkR V (W'.setCell ⟨gc, 2, none⟩ (.slice P' (np + 1) cp')) gc gl cl m t { s with ps := s.ps ++ [y] } X nx cx P' (np + 1) cp' := by
  have hc : Has W' gc _ _ := h.c.same (k.block gc h.c.lt (fun e => (h.c.ne_own h.op (by decide)) e.symm))
  have hl := kept_of h.l h.op (by decide) k
  have hx := kept_of h.ox h.op (by decide) k
  have hB := But.set gc W' 2 (.slice P' (np + 1) cp')
  refine ⟨hc.set 2 _, hB.own hl (hc.ne_own hl (by decide)), hB.own hx (hc.ne_own hx (by decide)), ?_, ?_, h.v, Nat.le_trans h.sz (Nat.le_trans k.size hB.size), h.nxs, by simp [h.nps]⟩
  · rw [qsC_app]; exact hB.own ho (hc.ne_own ho (by decide))
  · refine (h.b.grown k (Nat.le_of_lt h.c.lt) (fun r hr => ?_)).setCell (Nat.le_refl _) _
    have := (h.op.lt r hr).1; have := h.lt; omega
theorem MkR.crossed (h : MkR V W gc gl cl m t s X nx cx P np cp) {X' : Option Addr} {cx' : Nat} (y : Q4) (ho : W'.ownsRow (gl + 1) 70 4 (.slice X' (nx + 1) cx') (nx + 1) (qsC s.xs ++ q4C y)) (k : W.grownBy W' (Value.slice X nx cx).ownBlock) :
    MkR V (W'.setCell ⟨gc, 1, none⟩ (.slice X' (nx + 1) cx')) gc gl cl m t { s with xs := s.xs ++ [y] } X' (nx + 1) cx' P np cp := by
  have hc : Has W' gc _ _ := h.c.same (k.block gc h.c.lt (fun e => (h.c.ne_own h.ox (by decide)) e.symm))
  have hl := kept_of h.l h.ox (by decide) k
  have hp := kept_of h.op h.ox (by decide) k
  have hB := But.set gc W' 1 (.slice X' (nx + 1) cx')
  refine ⟨hc.set 1 _, hB.own hl (hc.ne_own hl (by decide)), ?_, hB.own hp (hc.ne_own hp (by decide)), ?_, h.v, Nat.le_trans h.sz (Nat.le_trans k.size hB.size), by simp [h.nxs], h.nps⟩
  · rw [qsC_app]; exact hB.own ho (hc.ne_own ho (by decide))
  · refine (h.b.grown k (Nat.le_of_lt h.c.lt) (fun r hr => ?_)).setCell (Nat.le_refl _) _
    have := (h.ox.lt r hr).1; have := h.lt; omega
/-- two places of the line are exchanged -/
theorem MkR.swapped (h : MkR V W gc gl cl m t s X nx cx P np cp) (i j : Nat) (a b : Int) :
    MkR V ((W.setCell ⟨gl, i, none⟩ (vInt a)).setCell ⟨gl, j, none⟩ (vInt b)) gc gl cl m t { s with l := (s.l.set i a).set j b } X nx cx P np cp := by
  have hB := (But.set gl W i (vInt a)).trans (But.set gl (W.setCell ⟨gl, i, none⟩ (vInt a)) j (vInt b))
  have hl := ((h.l.stored i (vInt a)).1.stored j (vInt b)).1
  have hlt := h.lt
  refine ⟨hB.has h.c (by omega), ?_, hB.own h.ox ?_, hB.own h.op ?_, h.b.trans (hB.below (by omega) (Nat.le_of_lt h.c.lt)), h.v, Nat.le_trans h.sz hB.size, h.nxs, h.nps⟩
  · rw [show ((s.l.set i a).set j b).take m = ((s.l.take m).set i a).set j b by rw [List.take_set, List.take_set], List.map_set, List.map_set]
    exact hl
  · intro e; have := (h.ox.lt gl e).1; omega
  · intro e; have := (h.op.lt gl e).1; omega
theorem work_pinned (j : Has W gw 52 (wkCells x)) (h : MkR V W gc gl cl m t s X nx cx P np cp) (k : W.grownBy W' (Value.slice P np cp).ownBlock) (hg : gl + 1 ≤ gw) (u : Value) : Has (W'.setCell ⟨gc, 2, none⟩ u) gw 52 (wkCells x) := by
  have := h.lt
  exact (j.same (k.block gw j.lt (fun e => (j.ne_own h.op (by decide)) e.symm))).far (by omega) 2 _
theorem work_crossed (j : Has W gw 52 (wkCells x)) (h : MkR V W gc gl cl m t s X nx cx P np cp) (k : W.grownBy W' (Value.slice X nx cx).ownBlock) (hg : gl + 1 ≤ gw) (u : Value) : Has (W'.setCell ⟨gc, 1, none⟩ u) gw 52 (wkCells x) := by
  have := h.lt
  exact (j.same (k.block gw j.lt (fun e => (j.ne_own h.ox (by decide)) e.symm))).far (by omega) 1 _
theorem work_swapped (j : Has W gw 52 (wkCells x)) (hg : gl + 1 ≤ gw) (i k : Nat) (a b : Value) : Has ((W.setCell ⟨gl, i, none⟩ a).setCell ⟨gl, k, none⟩ b) gw 52 (wkCells x) :=
  (j.far (by omega) i a).far (by omega) k b
theorem rowR_crossed {n : Nat} {v : Value} {ys : List Value} (r : W.ownsRow (gl + 1) 3 1 v n ys) (h : MkR V W gc gl cl m t s X nx cx P np cp) (k : W.grownBy W' (Value.slice X nx cx).ownBlock) (u : Value) : (W'.setCell ⟨gc, 1, none⟩ u).ownsRow (gl + 1) 3 1 v n ys := by
  have h1 := kept_of r h.ox (by decide) k
  have hc : Has W' gc _ _ := h.c.same (k.block gc h.c.lt (fun e => (h.c.ne_own h.ox (by decide)) e.symm))
  exact (But.set gc W' 1 u).own h1 (hc.ne_own h1 (by decide))
theorem rowR_swapped {n : Nat} {v : Value} {ys : List Value} (r : W.ownsRow (gl + 1) 3 1 v n ys) (i k : Nat) (a b : Value) : ((W.setCell ⟨gl, i, none⟩ a).setCell ⟨gl, k, none⟩ b).ownsRow (gl + 1) 3 1 v n ys :=
  ((But.set gl W i a).trans (But.set gl _ k b)).own r (fun e => by have := (r.lt gl e).1; omega)
end
/-- the word that the reference goes through -/
def refW (x : Wk) : ByteArray := if x.kind = 2 then ⟨#[80]⟩ else x.word
theorem refW_work {s : Mk} {i : Nat} {x : Wk} (h : x.kind = 2 → x.word.size = 0) : s.work i x = s.letters (i : Int) (mkMid x) (refW x).data.toList (refW x).size := by
  unfold Mk.work refW
  by_cases hk : x.kind = 2
  · rw [if_pos hk, if_pos hk, str_len, h hk]; rfl
  · rw [if_neg hk, if_neg hk, str_len]
theorem refW_ok {x : Wk} (h : wOk x.word = true) (hs : x.word.size ≤ 16) : wOk (refW x) = true ∧ (refW x).size ≤ 16 := by
  unfold refW
  split
  · exact ⟨by decide, by decide⟩
  · exact ⟨h, hs⟩
theorem lineL_at0 {m : Nat} (h : 0 < m) : (lineL m)[0]? = some 0 := by
  simp [lineL, h]
theorem crW_P : crW [80] 1 = [] := by decide
/-- what the reference does at a letter ahead of its crossings -/
def Mk.pinIf (s : Mk) (i : Int) (mid : Nat) (c : UInt8) : Mk := if c = 80 then s.pin i mid else s
theorem Mk.letter_pinIf (s : Mk) (i : Int) (mid : Nat) (c : UInt8) : s.letter i mid c = (s.pinIf i mid c).crosses i mid (crW [c] 1) (crW [c] 1).length := by
  unfold Mk.letter Mk.pinIf
  by_cases h : c = 80
  · rw [if_pos h, if_pos h, h, crW_P]; rfl
  · rw [if_neg h, if_neg h]
theorem Mk.pinIf_l (s : Mk) (i : Int) (mid : Nat) (c : UInt8) : (s.pinIf i mid c).l = s.l := by
  unfold Mk.pinIf; split <;> rfl
theorem Mk.pinIf_xs (s : Mk) (i : Int) (mid : Nat) (c : UInt8) : (s.pinIf i mid c).xs = s.xs := by
  unfold Mk.pinIf; split <;> rfl
end Go.Proofs.Ytpljaoagiaijiaa
