/-
  Contracts of torchonref17: ends of a valid cloth, Ends.
-/
import Derived.Test.YtdimfbmbomgiaaaVG7
import Derived.Test.YtdimfbmbomgiaaaVG12
import Derived.Test.YtdimfbmbomgiaaaVG15
import Derived.Laws.MakeOwn
import Derived.Deep.RegionHeld3
namespace Go.Proofs.Ytdimfbmbomgiaaa
open Go.RowKit
theorem rdI_hasR {w : World} {g : Nat} {t : TypeId} {L : List Int} {rest : List Value} (h : Has w g t (L.map vInt ++ rest)) : RdI w w.heap.size (some ⟨g, 0, none⟩) L := fun k x hx => by
  refine ⟨g, 0, rfl, h.lt, ?_⟩
  have hk := lt_of_get hx
  rw [Nat.zero_add, h.cell, List.getElem?_append_left (by simpa using hk), List.getElem?_map, hx]; rfl
theorem ends_line {xs : List Q4} {T : Nat} (hT : T ≤ 48) (hx : ∀ x ∈ xs, 0 ≤ x.b ∧ x.b ≤ (T : Int) - 2) : ∀ k, k ≤ xs.length → ∀ L, endsTo xs (lineL T) k = some L → L = (lineTo xs (lineL 48) k).take T
  | 0, _, L, h => by
    have h : some (lineL T) = some L := h
    injection h with h
    rw [← h]
    show lineL T = (lineL 48).take T
    rw [lineL_take T hT]
  | k + 1, hk, L, h => by
    obtain ⟨x, hxk⟩ := get_of_lt (l := xs) (k := k) (by omega)
    have hb := hx x (mem_of_get hxk)
    cases hE : endsTo xs (lineL T) k with
    | none =>
      have := endsTo_none hE (k + 1) (Nat.le_succ _)
      rw [this] at h; cases h
    | some L' =>
      have ih := ends_line hT hx k (by omega) L' hE
      rw [endsTo_succ hE hxk, ih, endStep_line (by rw [lineTo_len, lineL_len]; exact hT) (by omega)] at h
      split at h
      · injection h with h
        rw [← h, lineTo_succ hxk]
      · cases h
set_option maxRecDepth 100000 in
set_option maxHeartbeats 2000000 in
theorem ends57 (t : Int) (A B : Option Addr) (n c m d : Nat) (xs : List Q4) (w : World) (ht : t ≤ 48) (ht2 : 2 ≤ t) (hn : n ≤ 20000) (hx : RdQ w w.heap.size A xs) (hl : xs.length = n) (hok : ∀ x ∈ xs, okC t x = true) (hend : endsOk t xs = true) :
    Calls Try.prog 45 #[vCloth t A n c B m d] w fun e w' => ∃ A' n' c', e = .returned (.tuple #[.slice A' n' c', .bool true]) ∧ RdI w' w'.heap.size A' ((lineTo xs (lineL 48) n).take t.toNat) ∧ ((lineTo xs (lineL 48) n).take t.toNat).length = n' ∧ Below w.heap.size w w' := by
  have HX := Lib.hid hx; clear hx
  have HL := Lib.hid hl; clear hl
  have HEND := Lib.hid hend; clear hend
  have HOK := Lib.hid hok; clear hok
  obtain ⟨T, rfl⟩ := Int.eq_ofNat_of_zero_le (show 0 ≤ t by omega)
  have K0 : Has (w.alloc (.cells #[.int .i64 (T : Int), .slice A n c, .slice B m d] 49)) w.heap.size 49 [.int .i64 (T : Int), .slice A n c, .slice B m d] := Has.new rfl
  go_enter Try.func45, Try.ntmps45
  go_wp2_with fail
  refine (line17 T _ (by omega) (by omega)).mono ?_
  rintro e w1 ⟨g, cg, rest, rfl, hg, hgc, hG, hb1⟩
  have B1 : Below w.heap.size w w1 := bvia (by go_grown) hb1
  have HK := Lib.hid (K0.below hb1 K0.lt)
  have hgw : w.heap.size < g := by simp at hg; omega
  clear K0 hb1 hg
  go_wp2
  go_loopw [5] (fun i wr => ∃ (k : Nat) (L : List Int), k ≤ n ∧ i = .int .i64 (k : Int) ∧ endsTo xs (lineL T) k = some L ∧ L.length = T ∧ Has wr g 3 (L.map vInt ++ rest) ∧ Has wr w.heap.size 49 [.int .i64 (T : Int), .slice A n c, .slice B m d] ∧ Below w.heap.size w wr) (fun i _ => n - (intOf i).toNat)
  case atStart => exact ⟨0, lineL T, Nat.zero_le _, rfl, rfl, lineL_len T, hG, HK.out, B1⟩
  case round =>
    clear hG B1
    obtain ⟨k, L, hk, rfl, hE, hLT, hG, hK, hb⟩ := hrel
    obtain ⟨wo, rfl⟩ : ∃ wo : World, wo = wr := ⟨_, rfl⟩
    have HE := Lib.hid hE; clear hE
    have HLT := Lib.hid hLT; clear hLT
    have a0 : wo.cell? ⟨w.heap.size, 0, none⟩ = some (.int .i64 (T : Int)) := hK.cell 0
    have a1 : wo.cell? ⟨w.heap.size, 1, none⟩ = some (.slice A n c) := hK.cell 1
    have q := hK.lt
    have qg := hG.lt
    have HKw := Lib.hid hK; clear hK
    have HGw := Lib.hid hG; clear hG
    by_cases hlt : k < n
    · obtain ⟨x, hx⟩ := get_of_lt (l := xs) (k := k) (by rw [HL.out]; exact hlt)
      obtain ⟨ba, o, rfl, hba, c0, c1, c2, c3⟩ := (HX.out.below hb hb.size) _ x hx
      have hxo := HOK.out x (mem_of_get hx)
      unfold okC at hxo
      simp at hxo
      obtain ⟨i, hi⟩ := Int.eq_ofNat_of_zero_le hxo.1.1
      have hiT : i + 1 < T := by have := hxo.1.2; omega
      obtain ⟨a, ha⟩ := get_of_lt (l := L) (k := i) (by rw [HLT.out]; omega)
      obtain ⟨b, hb'⟩ := get_of_lt (l := L) (k := i + 1) (by rw [HLT.out]; exact hiT)
      have HES : Hid (endsTo xs (lineL T) (k + 1) = if endOk a b x then some ((L.set i b).set (i + 1) a) else none) := by
        show endsTo xs (lineL T) (k + 1) = _
        rw [endsTo_succ HE.out hx]
        exact endStep_get (by rw [hi]; simp) ha hb'
      have r0 : wo.cell? ⟨g, i, none⟩ = some (.int .i64 a) := by
        rw [HGw.out.cell, List.getElem?_append_left (by simp [HLT.out]; omega), List.getElem?_map, ha]; rfl
      have r1 : wo.cell? ⟨g, i + 1, none⟩ = some (.int .i64 b) := by
        rw [HGw.out.cell, List.getElem?_append_left (by simp [HLT.out]; omega), List.getElem?_map, hb']; rfl
      rw [hi] at c1
      have HI := Lib.hid hi
      clear hx hxo ha hb' hi
      have i1 : IntKind.i64.wrap ((i : Int) + 1) = (i : Int) + 1 := IntWalk.i64_in _ (by omega)
      have i2 : ((i : Int) + 1).toNat = i + 1 := by omega
      have i3 : (0 : Int) ≤ (i : Int) + 1 := by omega
      have i4 : (i : Int) + 1 < (T : Int) := by omega
      have i5 : i < T := by omega
      go_wp2
      have x1 : (wo.alloc (.cells #[.int .i64 x.a, .int .i64 (i : Int), .int .i64 x.c, .int .i64 x.d] 83)).cell? ⟨wo.heap.size, 1, none⟩ = some (.int .i64 (i : Int)) := by go_simp
      have x2 : (wo.alloc (.cells #[.int .i64 x.a, .int .i64 (i : Int), .int .i64 x.c, .int .i64 x.d] 83)).cell? ⟨wo.heap.size, 2, none⟩ = some (.int .i64 x.c) := by go_simp
      have x3 : (wo.alloc (.cells #[.int .i64 x.a, .int .i64 (i : Int), .int .i64 x.c, .int .i64 x.d] 83)).cell? ⟨wo.heap.size, 3, none⟩ = some (.int .i64 x.d) := by go_simp
      have hBW : Below wo.heap.size wo (wo.alloc (.cells #[.int .i64 x.a, .int .i64 (i : Int), .int .i64 x.c, .int .i64 x.d] 83)) := by go_grown
      have qx : wo.heap.size < (wo.alloc (.cells #[.int .i64 x.a, .int .i64 (i : Int), .int .i64 x.c, .int .i64 x.d] 83)).heap.size := by simp
      generalize (wo.alloc (.cells #[.int .i64 x.a, .int .i64 (i : Int), .int .i64 x.c, .int .i64 x.d] 83)) = W1 at *
      have qg1 : g < W1.heap.size := by omega
      have s0 := (hBW.cell (p := ⟨g, i, none⟩) qg).trans r0
      have s1 := (hBW.cell (p := ⟨g, i + 1, none⟩) qg).trans r1
      clear r0 r1
      have hxc := fun (x : Ext W1) => x.cell
      refine wp_region_ext (by kernel_rfl) (by kernel_rfl) ?_
      repeat (go_big_quiet_step (fail))
      refine wpQuiet_nil ?_
      intro w2 hw'
      have hb2 := ext_below hw'
      clear hw' hxc
      have y1 := (hb2.cell (p := ⟨wo.heap.size, 1, none⟩) qx).trans x1
      have y2 := (hb2.cell (p := ⟨wo.heap.size, 2, none⟩) qx).trans x2
      have y3 := (hb2.cell (p := ⟨wo.heap.size, 3, none⟩) qx).trans x3
      have z0 := (hb2.cell (p := ⟨g, i, none⟩) qg1).trans s0
      have z1 := (hb2.cell (p := ⟨g, i + 1, none⟩) qg1).trans s1
      have hB2 : Below wo.heap.size wo w2 := bvia hBW hb2
      have B2 : Below w.heap.size w w2 := bvia hb hB2
      have G2 := Lib.hid (HGw.out.below hB2 qg)
      have K2 := Lib.hid (HKw.out.below hB2 q)
      have qx2 : wo.heap.size < w2.heap.size := by have := hb2.size; omega
      have qg2 := G2.out.lt
      have fg := G2.out.free i
      have fg1 := G2.out.free (i + 1)
      have nz1 : g ≠ wo.heap.size := by omega
      have nz2 : wo.heap.size ≠ g := by omega
      clear x1 x2 x3 s0 s1 hb2 hBW qx qg1 a0 a1
      by_cases hA : a = x.c ∧ b = x.d
      · obtain ⟨e1, e2⟩ := hA
        have f1 : (a != x.c) = false := by simpa using e1
        have f2 : (b != x.d) = false := by simpa using e2
        have hOKb : endOk a b x = true := by unfold endOk; rw [e1, e2]; simp
        clear e1 e2
        go_wp2
        have hEq : Hid (endsTo xs (lineL T) (k + 1) = some ((L.set i b).set (i + 1) a)) := by
          show endsTo xs (lineL T) (k + 1) = _
          rw [HES.out, if_pos hOKb]
        go_region_held3 (fun W => W.cell? ⟨wo.heap.size, 1, none⟩ = some (.int .i64 (i : Int))) (go_keep) (fail)
        go_wp2
        go_roundw
        case rel =>
          have h1 := ((G2.out.set i (.int .i64 b)).set (i + 1) (.int .i64 a))
          rw [row_set2 L rest b a (by rw [HLT.out]; exact hiT)] at h1
          refine ⟨k + 1, (L.set i b).set (i + 1) a, by omega, by go_num, hEq.out, by rw [List.length_set, List.length_set, HLT.out], h1.drew, ((K2.out.far (by omega) i _).far (by omega) (i + 1) _).drew, (((B2.setCell (by simp; omega) _).setCell (by simp; omega) _)).drew⟩
        case measure => first | (simp [intOf]; done) | (simp [intOf]; omega)
      · by_cases hB' : b = x.c ∧ a = x.d
        · obtain ⟨e1, e2⟩ := hB'
          have f0 : (a != x.c) = true := by simp; intro h; exact hA ⟨h, by rw [e1, ← h, e2]⟩
          have f1 : (b != x.c) = false := by simpa using e1
          have f2 : (a != x.d) = false := by simpa using e2
          have hOKb : endOk a b x = true := by unfold endOk; rw [e1, e2]; simp
          clear e1 e2 hA
          go_wp2
          have hEq : Hid (endsTo xs (lineL T) (k + 1) = some ((L.set i b).set (i + 1) a)) := by
            show endsTo xs (lineL T) (k + 1) = _
            rw [HES.out, if_pos hOKb]
          go_region_held3 (fun W => W.cell? ⟨wo.heap.size, 1, none⟩ = some (.int .i64 (i : Int))) (go_keep) (fail)
          go_wp2
          go_roundw
          case rel =>
            have h1 := ((G2.out.set i (.int .i64 b)).set (i + 1) (.int .i64 a))
            rw [row_set2 L rest b a (by rw [HLT.out]; exact hiT)] at h1
            refine ⟨k + 1, (L.set i b).set (i + 1) a, by omega, by go_num, hEq.out, by rw [List.length_set, List.length_set, HLT.out], h1.drew, ((K2.out.far (by omega) i _).far (by omega) (i + 1) _).drew, (((B2.setCell (by simp; omega) _).setCell (by simp; omega) _)).drew⟩
          case measure => first | (simp [intOf]; done) | (simp [intOf]; omega)
        · have hF : Hid (endsOk (T : Int) xs = false) := by
            show endsOk (T : Int) xs = false
            have : endOk a b x = false := by
              unfold endOk
              simp only [Bool.or_eq_false_iff, Bool.and_eq_false_iff, beq_eq_false_iff_ne]
              omega
            unfold endsOk
            rw [Int.toNat_natCast, endsTo_none (by rw [HES.out, this]; rfl) xs.length (by rw [HL.out]; omega)]
            rfl
          have h1 := HEND.out
          rw [hF.out] at h1
          cases h1
    · obtain rfl : k = n := by omega
      have hLL : L = (lineTo xs (lineL 48) k).take T := ends_line (by omega) (fun x hx => by have := HOK.out x hx; unfold okC at this; simp at this; omega) k (by rw [HL.out]; exact Nat.le_refl _) L HE.out
      have hTT : ((T : Nat) : Int).toNat = T := by simp
      have HR := Lib.hid (rdI_hasR HGw.out)
      have HLT2 := HLT.out
      rw [hLL] at HR HLT2
      have HLT3 := Lib.hid HLT2
      clear hLL HLT2
      go_wp2
      go_ret2
      exact ⟨some ⟨g, 0, none⟩, T, cg, rfl, by rw [hTT]; exact HR.out, by rw [hTT]; exact HLT3.out, hb⟩
theorem ckE_ends {t : Int} {xs ps : List Q4} (h : ckE t xs ps = 0) : 2 ≤ t ∧ t ≤ 48 ∧ xs.length ≤ 20000 ∧ (∀ x ∈ xs, okC t x = true) ∧ endsOk t xs = true := by
  unfold ckE at h
  split at h
  · omega
  rename_i h1
  split at h
  · omega
  rename_i h2
  split at h
  · omega
  rename_i h3
  have hn : numsOk t xs ps = true := by simpa using h2
  obtain ⟨g1, g2, _⟩ := numsOk_parts hn
  exact ⟨g1, by omega, by omega, g2, by simpa using h3⟩
set_option maxRecDepth 100000 in
set_option maxHeartbeats 2000000 in
theorem ends31 (t : Int) (A B : Option Addr) (n c m d : Nat) (xs ps : List Q4) (w : World) (hn : n ≤ 9223372036854775807) (hm : m ≤ 9223372036854775807) (hx : RdQ w w.heap.size A xs) (hp : RdQ w w.heap.size B ps) (hl : xs.length = n) (hl' : ps.length = m) (ht0 : -9223372036854775808 ≤ t) :
    Calls Try.prog 25 #[vCloth t A n c B m d] w fun e w' => ∃ A' n' c', e = .returned (.tuple #[.slice A' n' c', .int .i64 (ckE t xs ps)]) ∧ RdI w' w'.heap.size A' (endsR t xs ps) ∧ (endsR t xs ps).length = n' ∧ Below w.heap.size w w' := by
  have C1 := Lib.hid (fun (W : World) (hb : Below w.heap.size w W) => check17 t A B n c m d xs ps W hn hm (hx.up hb) (hp.up hb) hl hl' ht0)
  have K0 : Has (w.alloc (.cells #[.int .i64 t, .slice A n c, .slice B m d] 49)) w.heap.size 49 [.int .i64 t, .slice A n c, .slice B m d] := Has.new rfl
  by_cases hE : ckE t xs ps = 0
  · obtain ⟨g1, g2, g3, g4, g5⟩ := ckE_ends hE
    have hR : endsR t xs ps = (lineTo xs (lineL 48) n).take t.toNat := by unfold endsR; rw [if_pos hE, hl]
    have C2 := Lib.hid (fun (W : World) (hb : Below w.heap.size w W) => ends57 t A B n c m d xs W g2 g1 (by omega) (hx.up hb) hl g4 g5)
    rw [hE] at C1
    rw [hE, hR]
    clear hx hp hl hl' hE g1 g2 g3 g4 g5 hR
    go_enter Try.func25, Try.ntmps25
    go_wp2_with fail
    refine (C1.out _ (by go_grown)).mono ?_
    rintro e w1 ⟨rfl, hb1⟩
    have B1 : Below w.heap.size w w1 := bvia (show Below w.heap.size w _ by go_grown) hb1
    have HB := K0.below hb1 K0.lt
    have a0 : w1.cell? ⟨w.heap.size, 0, none⟩ = some (.int .i64 t) := HB.cell 0
    have a1 : w1.cell? ⟨w.heap.size, 1, none⟩ = some (.slice A n c) := HB.cell 1
    have a2 : w1.cell? ⟨w.heap.size, 2, none⟩ = some (.slice B m d) := HB.cell 2
    have q := HB.lt
    clear HB K0 hb1 C1
    go_wp2_with fail
    refine (C2.out _ B1).mono ?_
    rintro e w2 ⟨A2, n2, c2, rfl, r2, l2, hb2⟩
    have HR := Lib.hid r2
    clear a0 a1 a2 q r2 C2
    go_wp2
    go_ret2
    exact ⟨A2, n2, c2, rfl, HR.out, l2, bvia B1 hb2⟩
  · have hR : endsR t xs ps = [] := by unfold endsR; rw [if_neg hE]
    rw [hR]
    generalize ckE t xs ps = r at *
    have hr : (r != 0) = true := by simpa using hE
    clear hE hR hx hp hl hl'
    go_enter Try.func25, Try.ntmps25
    go_wp2_with fail
    refine (C1.out _ (by go_grown)).mono ?_
    rintro e w1 ⟨rfl, hb1⟩
    have B1 : Below w.heap.size w w1 := bvia (show Below w.heap.size w _ by go_grown) hb1
    clear hb1 C1
    go_wp2
    go_ret2
    exact ⟨none, 0, 0, rfl, Rd1.nil _ _ _ _, rfl, B1⟩
end Go.Proofs.Ytdimfbmbomgiaaa
/-
  Contract of torchonref24.joints.
-/
namespace Go.Proofs.Ytdimfbmbomgiaaa
open Go.RowKit
theorem mkI24 (n : Nat) (hn : n ≤ 1000) (W : World) : (Instr.makeSlice 52 (.int .i64 (n : Int)) (.int .i64 (n : Int))).run Try.prog W = .ok (.slice (some ⟨W.heap.size, 0, none⟩) n n) (W.alloc (.cells ((List.replicate n (0 : Int)).map vInt).toArray 3)) := by
  obtain ⟨i, hi, hz, hs, hb⟩ := info_parts infoInt
  have h := run_make (P := Try.prog) W 52 3 i (.int .i64 0) Try.underlying52 hi hz .i64 .i64 (n : Int) (n : Int) (by omega) (Int.le_refl _) (by rw [hb]; omega) (by omega)
  rw [hs] at h
  have e : madeCells #[.int .i64 0] n = ((List.replicate n (0 : Int)).map vInt).toArray := by
    apply Array.ext'
    rw [toList_madeCells_one, List.map_replicate]
  simpa [Value.cells, e] using h
set_option maxRecDepth 100000 in
set_option maxHeartbeats 2000000 in
theorem joints38 (p : Int) (A : Option Addr) (n c h : Nat) (ws : List Wk) (w : World) (hn : n ≤ 9223372036854775807) (hw : RdW w w.heap.size A ws) (hl : ws.length = n) (hE : schk p ws = 0) (hh : (h : Int) < p) :
    Calls Try.prog 38 #[.agg #[.int .i64 p, .slice A n c], .int .i64 (h : Int)] w (RetI (nxL ws (2 * p).toNat h (2 * p).toNat) w) := by
  have HOK := Lib.hid (schk_zero hE)
  have CM := Lib.hid (fun (W : World) (hb : Below w.heap.size w W) => make12 p A n c ws W hn (hw.up hb) hl hE)
  have HV := Lib.hid (Mk.valid HOK.out n (by rw [hl]; exact Nat.le_refl _))
  have HEN : Hid (endsR (2 * p) (Mk.works ws n).xs (Mk.works ws n).ps = endL ws (2 * p).toNat) := by
    show _ = _
    rw [Mk.endsR HOK.out n (by rw [hl]; exact Nat.le_refl _), ← hl, works_endL HOK.out]
  have hp0 : -9223372036854775808 ≤ 2 * p := by have := HOK.out.ge; omega
  have HALL := Lib.hid (jlS_all HOK.out h (2 * p).toNat)
  have HLT : Hid (∀ j, j < (2 * p).toNat → plS ws j < (2 * p).toNat) := fun j hj => plS_lt HOK.out hj
  obtain ⟨P, rfl⟩ := Int.eq_ofNat_of_zero_le (show 0 ≤ p by have := HOK.out.ge; omega)
  have hP : 2 ≤ P ∧ P ≤ 24 ∧ h < P := by have := HOK.out.le; have := HOK.out.ge; omega
  have eT : (2 * (P : Int)).toNat = 2 * P := by omega
  rw [eT] at HEN HALL HLT ⊢
  have K0 : Has (w.alloc (.cells #[.int .i64 (P : Int), .slice A n c] 24)) w.heap.size 24 [.int .i64 (P : Int), .slice A n c] := Has.new rfl
  clear hw hl hE eT hh
  go_enter Try.func38, Try.ntmps38
  go_wp2_with fail
  refine (CM.out _ (by go_grown)).mono ?_
  rintro e w3 ⟨A3, n3, c3, D3, m3, d3, rfl, x3, p3, ln3, lm3, hc3, hc3', hd3, hd3', hb3⟩
  have B3 := Lib.hid (bvia (show Below w.heap.size w _ by go_grown) hb3)
  have HK3 := Lib.hid (K0.below hb3 K0.lt)
  have HX3 := Lib.hid x3
  have HP3 := Lib.hid p3
  have CE := Lib.hid (fun (W : World) (hb : Below w3.heap.size w3 W) => ends31 (2 * (P : Int)) A3 D3 n3 c3 m3 d3 _ _ W (Nat.le_trans hc3 hc3') (Nat.le_trans hd3 hd3') (HX3.out.up hb) (HP3.out.up hb) ln3 lm3 hp0)
  rw [HEN.out, HV.out] at CE
  clear x3 p3 ln3 lm3 hb3 CM HX3 HP3 K0
  go_wp2_with fail
  refine (CE.out _ (by go_grown)).mono ?_
  rintro e w4 ⟨A4, n4, c4, rfl, hr4, hl4, hb4⟩
  have B34 : Below w3.heap.size w3 w4 := bvia (show Below w3.heap.size w3 _ by go_grown) hb4
  have B4 := Lib.hid (bvia B3.out B34)
  have HK4 := Lib.hid (HK3.out.below B34 HK3.out.lt)
  have HR4 := Lib.hid hr4
  obtain ⟨T, hT⟩ : ∃ T, T = 2 * P := ⟨_, rfl⟩
  rw [← hT] at HR4 HALL HLT hl4
  obtain rfl : T = n4 := by rw [← hl4, endL_len]
  have hmk := mkI24 T (by omega)
  have HTT := Lib.hid hT
  have q0 := HK4.out.lt
  have t48 : T ≤ 48 := by omega
  clear hb4 hr4 hl4 CE B34 B3 HK3 HEN HV hT
  go_wp2
  go_loopw [10] (fun v wr => ∃ j : Nat, j ≤ T ∧ v = .int .i64 (j : Int) ∧ Hid (Has wr w4.heap.size 3 ((jlS ws T h T j).map vInt)) ∧ Hid (Below w4.heap.size w4 wr)) (fun v _ => T - (intOf v).toNat)
  case atStart =>
    refine ⟨0, Nat.zero_le _, rfl, ?_, ?_⟩
    · rw [jlS_zero]; exact Has.new (by rw [List.map_replicate]; rfl)
    · show Below _ _ _
      go_grown
  case round =>
    obtain ⟨j, hj, rfl, HS, HB⟩ := hrel
    obtain ⟨wo, rfl⟩ : ∃ wo : World, wo = wr := ⟨_, rfl⟩
    by_cases hlt : j < T
    · have jk : (j : Int) < (T : Int) := by omega
      obtain ⟨ba, o, hA, hba, c0'⟩ := HR4.out j _ (endL_get ws hlt)
      subst hA
      have c0 := (HB.out.cell (p := ⟨ba, o + j, none⟩) hba).trans c0'
      have k0 : wo.cell? ⟨w.heap.size, 0, none⟩ = some (.int .i64 (P : Int)) := (HB.out.cell (p := ⟨w.heap.size, 0, none⟩) q0).trans (HK4.out.cell 0)
      have hpl := HLT.out j hlt
      have HNX := Lib.hid (jlS_set ws (h := h) (N := T) (j := j) hpl)
      generalize plS ws j = q at *
      have i0 : IntKind.i64.wrap ((j : Int) / 2) = (j : Int) / 2 := IntWalk.i64_in _ (by omega)
      have i1 : IntKind.i64.wrap ((j : Int) / 2 + (h : Int)) = (j : Int) / 2 + (h : Int) := IntWalk.i64_in _ (by omega)
      have i2 : (0 : Int) ≤ (j : Int) / 2 + (h : Int) := by omega
      have i3 : ((j : Int) / 2 + (h : Int)).tmod (P : Int) = ((j : Int) / 2 + (h : Int)) % (P : Int) := Int.tmod_eq_emod_of_nonneg i2
      have i5 : (j : Int).tmod 2 = (j : Int) % 2 := Int.tmod_eq_emod_of_nonneg (by omega)
      have hx1 : 0 ≤ ((j : Int) / 2 + (h : Int)) % (P : Int) := Int.emod_nonneg _ (by omega)
      have hx2 : ((j : Int) / 2 + (h : Int)) % (P : Int) < (P : Int) := Int.emod_lt_of_pos _ (by omega)
      have i4 : IntKind.i64.wrap (2 * (((j : Int) / 2 + (h : Int)) % (P : Int))) = 2 * (((j : Int) / 2 + (h : Int)) % (P : Int)) := IntWalk.i64_in _ (by omega)
      have i6 : IntKind.i64.wrap (2 * (((j : Int) / 2 + (h : Int)) % (P : Int)) + (j : Int) % 2) = 2 * (((j : Int) / 2 + (h : Int)) % (P : Int)) + (j : Int) % 2 := IntWalk.i64_in _ (by omega)
      clear hx1 hx2
      have HJ := Lib.hid (joint_ref (P := P) (h := h) (j := j) (by omega))
      have i8 : ¬ P = 0 := by omega
      have qi : (q : Int) < (T : Int) := by omega
      have f0 := HS.out.free q
      have qs := HS.out.lt
      have nz1 : ba ≠ w4.heap.size := by omega
      have nz2 : w.heap.size ≠ w4.heap.size := by omega
      have v0 : wo.cell? ⟨w4.heap.size, q, none⟩ = some (vInt ((jlS ws T h T j).getD q 0)) := by
        rw [HS.out.cell, List.getElem?_map, List.getD_eq_getElem?_getD]
        obtain ⟨x, hx⟩ := get_of_lt (l := jlS ws T h T j) (k := q) (by rw [jlS_len]; exact hpl)
        rw [hx]; rfl
      clear c0'
      go_wp2
      go_region_held3 (fun W => W.cell? ⟨ba, o + j, none⟩ = some (vInt (q : Int)) ∧ W.cell? ⟨w.heap.size, 0, none⟩ = some (.int .i64 (P : Int))) (first | exact ⟨c0, k0⟩ | exact ⟨(World.cell?_setCell_far _ _ _ _ (Ne.symm nz1)).trans c0, (World.cell?_setCell_far _ _ _ _ (Ne.symm nz2)).trans k0⟩ | go_keep) (fail)
      go_wp2
      go_roundw
      case rel =>
        have e : 2 * (((j : Int) / 2 + (h : Int)) % (P : Int)) + (j : Int) % 2 = (((j + 2 * h) % T : Nat) : Int) := by
          rw [HTT.out, ← HJ.out]; simp
        rw [e]
        have h1 := HS.out.set q (vInt (((j + 2 * h) % T : Nat) : Int))
        rw [← List.map_set, HNX.out] at h1
        exact ⟨j + 1, by omega, by go_num, h1.drew, (HB.out.setCell (Nat.le_refl _) _).drew⟩
      case measure => first | (simp [intOf]; done) | (simp [intOf]; omega)
    · obtain rfl : j = T := by omega
      go_wp2
      go_ret
      refine ⟨some ⟨w4.heap.size, 0, none⟩, j, j, rfl, ?_, ?_, Nat.le_refl _, by omega, bvia B4.out HB.out⟩
      · rw [← HTT.out, ← HALL.out]; exact rdI_hasC HS.out
      · rw [nxL_len, HTT.out]
end Go.Proofs.Ytdimfbmbomgiaaa
/-
  Contracts of torchonref24.loops and Loops.
-/
namespace Go.Proofs.Ytdimfbmbomgiaaa
open Go.RowKit
def bzN (N : Nat) (s : Nat → Bool) : List Value := (List.range N).map (fun k => .bool (s k))
theorem bzN_len (N : Nat) (s : Nat → Bool) : (bzN N s).length = N := by simp [bzN]
theorem bzN_get (N : Nat) (s : Nat → Bool) {k : Nat} (h : k < N) : (bzN N s)[k]? = some (.bool (s k)) := by
  unfold bzN; rw [List.getElem?_map, List.getElem?_range h]; rfl
theorem bzN_set (N : Nat) (s : Nat → Bool) (k : Nat) : (bzN N s).set k (.bool true) = bzN N (Cyc.upd s k) := by
  apply List.ext_getElem?
  intro i
  rw [List.getElem?_set, bzN_len]
  by_cases hi : i < N
  · rw [bzN_get _ _ hi, bzN_get _ _ hi]
    by_cases e : k = i
    · subst e; rw [if_pos rfl, if_pos hi, Cyc.upd_same]
    · rw [if_neg e, Cyc.upd_ne s (fun h => e h.symm)]
  · have h1 : (bzN N s)[i]? = none := List.getElem?_eq_none (by rw [bzN_len]; omega)
    have h2 : (bzN N (Cyc.upd s k))[i]? = none := List.getElem?_eq_none (by rw [bzN_len]; omega)
    rw [h1, h2]
    split
    · split
      · omega
      · rfl
    · rfl
theorem infoBo : (Try.prog.info? 4).map (fun i => (i.zero, i.size, i.bytes)) = some (some (.bool false), 1, 1) := by kernel_rfl
theorem mkB24 (n : Nat) (hn : n ≤ 1000) (W : World) : (Instr.makeSlice 55 (.int .i64 (n : Int)) (.int .i64 (n : Int))).run Try.prog W = .ok (.slice (some ⟨W.heap.size, 0, none⟩) n n) (W.alloc (.cells (bzN n (fun _ => false)).toArray 4)) := by
  obtain ⟨i, hi, hz, hs, hb⟩ := info_parts infoBo
  have h := run_make (P := Try.prog) W 55 4 i (.bool false) Try.underlying55 hi hz .i64 .i64 (n : Int) (n : Int) (by omega) (Int.le_refl _) (by rw [hb]; omega) (by omega)
  rw [hs] at h
  have e : madeCells #[.bool false] n = (bzN n (fun _ => false)).toArray := by
    apply Array.ext'
    rw [toList_madeCells_one]
    unfold bzN
    rw [List.map_const', List.length_range]
  simpa [Value.cells, e] using h
/-- what holds between two rounds: the rows of the loops found -/
structure FndI (w0 hi : Nat) (X : Option Addr) (c : Nat) (xs : List Lp) (W : World) : Prop where
  row : W.ownsRow w0 52 1 (.slice X xs.length c) xs.length (xs.map slV)
  rows : ∀ x ∈ xs, W.ownsRow w0 3 1 (slV x) x.2.length (x.2.map vNat) ∧ ∀ r, (slV x).ownBlock = some r → r < hi
theorem FndI.keep {w0 hi : Nat} {X : Option Addr} {c : Nat} {xs : List Lp} {W W' : World} (h : FndI w0 hi X c xs W) (k : ∀ r t cs, Has W r t cs → (t = 52 ∨ t = 3 ∧ r < hi) → W'.heap[r]? = W.heap[r]?) : FndI w0 hi X c xs W' :=
  ⟨own_same h.row (fun g hg => by obtain ⟨cs, hc⟩ := own_cells2 h.row hg; exact k g _ cs hc (.inl rfl)), fun x hx => ⟨own_same (h.rows x hx).1 (fun g hg => by obtain ⟨cs, hc⟩ := own_cells2 (h.rows x hx).1 hg; exact k g _ cs hc (.inr ⟨rfl, (h.rows x hx).2 g hg⟩)), (h.rows x hx).2⟩⟩
theorem FndI.rdL {w0 hi : Nat} {X : Option Addr} {c : Nat} {xs : List Lp} {W : World} (h : FndI w0 hi X c xs W) : RdL W W.heap.size X (xs.map (·.2)) := fun k lk hlk => by
  rw [List.getElem?_map] at hlk
  obtain ⟨x, hx⟩ := get_of_lt (l := xs) (k := k) (by
    rcases Nat.lt_or_ge k xs.length with h | h
    · exact h
    · rw [List.getElem?_eq_none h] at hlk; cases hlk)
  rw [hx] at hlk
  injection hlk with hlk
  subst hlk
  obtain ⟨g, h1, _, h3, h4⟩ := own_at h.row (j := k) (u := slV x) (by rw [List.getElem?_map, hx]; rfl)
  exact ⟨g, 0, x.1.1, x.1.2, h1, h3, by rw [Nat.zero_add]; exact h4, own_rd1 (h.rows x (mem_of_get hx)).1⟩
set_option maxRecDepth 100000 in
set_option maxHeartbeats 4000000 in
theorem loops37 (A : Option Addr) (T d : Nat) (nx : Nat → Nat) (ns : List Int) (w : World) (hT : T ≤ 48) (hP : Cyc.Perm nx T) (hns : ∀ t, t < T → ns[t]? = some (nx t : Int)) (hr : RdI w w.heap.size A ns) (hnl : ns.length = T) :
    Calls Try.prog 37 #[.slice A T d] w fun e w' => ∃ A n c, e = .returned (.slice A n c) ∧ RdL w' w'.heap.size A (Cyc.loops nx T) ∧ (Cyc.loops nx T).length = n ∧ n ≤ c ∧ c ≤ 9223372036854775807 ∧ Below w.heap.size w w' := by
  have HP := Lib.hid hP; clear hP
  have HNS := Lib.hid hns; clear hns
  have HR := Lib.hid hr; clear hr
  have hmk := mkB24 T (by omega)
  go_enter Try.func37, Try.ntmps37
  go_wp2
  go_loopw [4, 5] (fun u v wr => ∃ (X : Option Addr) (c j : Nat) (xs : List Lp), u = .slice X xs.length c ∧ v = .int .i64 (j : Int) ∧ j ≤ T ∧ xs.length ≤ j ∧ Hid (xs.map (·.2) = (Cyc.loopsTo nx T j).2) ∧ Hid (FndI w.heap.size wr.heap.size X c xs wr) ∧ Hid (Has wr w.heap.size 4 (bzN T (Cyc.loopsTo nx T j).1)) ∧ Hid (Below w.heap.size w wr)) (fun _ v _ => T - (intOf v).toNat)
  case atStart =>
    refine ⟨none, 0, 0, [], rfl, rfl, Nat.zero_le _, Nat.le_refl _, rfl, ⟨World.ownsRow_nil _ _ _ _, fun x hx => by simp at hx⟩, Has.new rfl, ?_⟩
    show Below _ _ _
    go_grown
  case round =>
    clear hmk
    obtain ⟨X, c, j, xs, rfl, rfl, hj, hxj, HX, HF, HZ, HB⟩ := hrel
    obtain ⟨wo, rfl⟩ : ∃ wo : World, wo = wr := ⟨_, rfl⟩
    have z0 := HZ.out.lt
    by_cases hlt : j < T
    · have jk : (j : Int) < (T : Int) := by omega
      have b0 : wo.cell? ⟨w.heap.size, j, none⟩ = some (.bool ((Cyc.loopsTo nx T j).1 j)) := (HZ.out.cell j).trans (bzN_get T _ hlt)
      cases hsj : (Cyc.loopsTo nx T j).1 j with
      | true =>
        rw [hsj] at b0
        have HTT := Lib.hid (loops_nil (nx := nx) (T := T) (trail_true hsj T))
        clear hsj
        go_wp2
        go_roundw
        case rel => exact ⟨X, c, j + 1, xs, rfl, by go_num, by omega, by omega, by show _ = _; rw [HTT.out]; exact HX.out, HF, by rw [HTT.out]; exact HZ.out, HB⟩
        case measure => first | (simp [intOf]; done) | (simp [intOf]; omega)
      | false =>
        rw [hsj] at b0
        obtain ⟨s0, hs0⟩ : ∃ s0, s0 = (Cyc.loopsTo nx T j).1 := ⟨_, rfl⟩
        rw [← hs0] at HZ hsj
        have HS0 := Lib.hid hs0
        have HSJ := Lib.hid hsj
        clear hs0 hsj
        obtain ⟨hi, hhi⟩ : ∃ hi, hi = wo.heap.size := ⟨_, rfl⟩
        rw [← hhi] at HF
        have HH : hi ≤ wo.heap.size := by omega
        have hwi : w.heap.size ≤ hi := by rw [hhi]; exact HB.out.size
        clear hhi
        go_wp2
        go_loopw [6, 7] (fun u v wr => ∃ (A' : Option Addr) (c' : Nat) (lm : List Nat) (f k : Nat) (s : Nat → Bool), u = .slice A' lm.length c' ∧ v = .int .i64 (k : Int) ∧ k < T ∧ f + lm.length = T ∧ Hid (Cyc.trail nx T s0 j = ((Cyc.trail nx f s k).1, lm ++ (Cyc.trail nx f s k).2)) ∧ Cyc.cnt s T ≤ f ∧ Hid (wr.ownsRow hi 3 1 (.slice A' lm.length c') lm.length (lm.map vNat)) ∧ Hid (FndI w.heap.size hi X c xs wr) ∧ Hid (Has wr w.heap.size 4 (bzN T s)) ∧ Hid (Below w.heap.size w wr) ∧ hi ≤ wr.heap.size) (fun u _ _ => match u with | .slice _ n _ => T - n | _ => 0)
        case atStart => exact ⟨none, 0, [], T, j, s0, rfl, rfl, hlt, rfl, rfl, Cyc.cnt_le _ _, World.ownsRow_nil _ _ _ _, HF, HZ, HB, HH⟩
        case round =>
          clear HF HZ HB HH z0 b0
          obtain ⟨A', c', lm, f, k, s, rfl, rfl, hkT, hf, HTR, hc, HO, HF, HZ, HB, HH⟩ := hrel
          obtain ⟨wo, rfl⟩ : ∃ wo : World, wo = wr := ⟨_, rfl⟩
          have z0 := HZ.out.lt
          have b0 : wo.cell? ⟨w.heap.size, k, none⟩ = some (.bool (s k)) := (HZ.out.cell k).trans (bzN_get T s hkT)
          have kT : (k : Int) < (T : Int) := by omega
          cases hsk : s k with
          | false =>
            rw [hsk] at b0
            obtain ⟨f', rfl⟩ : ∃ f', f = f' + 1 := ⟨f - 1, by have := Cyc.cnt_pos s hkT hsk; omega⟩
            have HTF := Lib.hid (trail_false (nx := nx) hsk f')
            have hc2 := Cyc.cnt_upd s k hsk T hkT
            have hc3 : Cyc.cnt (Cyc.upd s k) T ≤ f' := by omega
            have hnk := HP.out.lt k hkT
            have f0 := HZ.out.free k
            have hne := HZ.out.ne_own HO.out (by decide)
            have hO1 := own_same (w' := wo.setCell ⟨w.heap.size, k, none⟩ (.bool true)) HO.out (fun g hg => Below.heap_setCell _ _ _ _ (fun e => hne (by rw [hg, e])))
            have HO1 := Lib.hid hO1
            have HZ1 := Lib.hid (HZ.out.set k (.bool true))
            have HRB : Hid (∀ r, (Value.slice A' lm.length c').ownBlock = some r → hi ≤ r ∧ ∃ cs, Has wo r 3 cs) := fun r hr => ⟨(HO.out.lt r hr).1, own_cells2 HO.out hr⟩
            have HNW : Hid (∀ (j : Nat) u, [vNat k][j]? = some u → ((wo.setCell ⟨w.heap.size, k, none⟩ (.bool true)).alloc (.cells #[vNat k] 3)).cell? ⟨wo.heap.size, j, none⟩ = some u) := by
              have h := news_new (wo.setCell ⟨w.heap.size, k, none⟩ (.bool true)) (vNat k) 3
              have hsz : (wo.setCell ⟨w.heap.size, k, none⟩ (.bool true)).heap.size = wo.heap.size := by simp [World.setCell]
              rw [hsz] at h; exact h
            have HNE := Lib.hid hne
            obtain ⟨ba, o, rfl, hba, y0⟩ := HR.out k _ (HNS.out k hkT)
            have y1 : wo.cell? ⟨ba, o + k, none⟩ = some (vInt (nx k : Int)) := (HB.out.cell (p := ⟨ba, o + k, none⟩) hba).trans y0
            have qb : ba < wo.heap.size := Nat.lt_of_lt_of_le hba HB.out.size
            clear hsk hc2 hO1 hne hc y0
            go_wp2_with (at_builtin; refine wpList_app rfl (.tmp 34) (.tmp 36) _ rfl hi 3 (.int .i64 0) 1 8 Try.underlying52 infoInt rfl (by omega) (by omega) _ _ _ rfl (HO1.out.alloc _) wo.heap.size [vNat k] rfl rfl HNW.out (one_int _ _) (by omega) (by first | (simp; done) | (simp; omega)) ?_; intro ga cap1 w2 hg1 hown1 hgrow1 hor1; have hsame : ∀ r, r < wo.heap.size → r ≠ w.heap.size → (Value.slice A' lm.length c').ownBlock ≠ some r → w2.heap[r]? = wo.heap[r]? := fun r h1 h2 h3 => (hgrow1.block r (by first | (simp; done) | (simp; omega)) (fun e => h3 e.symm)).trans ((Below.heap_alloc _ _ r (show r < _ from (by simpa using h1))).trans (Below.heap_setCell _ _ _ _ h2)); have y2 := (cell_same (a := ⟨ba, o + k, none⟩) (hsame ba qb (by omega) (fun e => by have := (HRB.out ba e).1; omega))).trans y1; have q8 : wo.heap.size ≤ w2.heap.size := Nat.le_trans (by first | (simp; done) | (simp; omega)) hgrow1.size; have q9 := Nat.lt_of_lt_of_le qb q8)
            go_roundw
            case rel =>
              have hW2 := own_cells2 hown1 (g := ga) rfl
              refine ⟨some ⟨ga, 0, none⟩, cap1, lm ++ [k], f', nx k, Cyc.upd s k, by rw [List.length_append]; rfl, rfl, hnk, by rw [List.length_append, List.length_singleton]; omega, ?_, hc3, ?_, ?_, ?_, ?_, Nat.le_trans HH q8⟩
              · show _ = _
                rw [HTR.out, HTF.out, List.append_assoc]; rfl
              · show World.ownsRow _ _ _ _ _ _ _
                rw [List.length_append, List.map_append]; exact hown1
              · refine HF.out.keep (fun r t cs hr ht => hsame r hr.lt (fun e => ?_) (fun e => ?_))
                · rw [e] at hr
                  have := hr.of_type HZ.out
                  rcases ht with ht | ht
                  · rw [ht] at this; exact absurd this (by decide)
                  · rw [ht.1] at this; exact absurd this (by decide)
                · obtain ⟨k1, cs', k2⟩ := HRB.out r e
                  rcases ht with ht | ht
                  · have := hr.of_type k2
                    rw [ht] at this; exact absurd this (by decide)
                  · omega
              · show Has _ _ _ _
                rw [← bzN_set]
                exact (HZ1.out.alloc _).same (hgrow1.block _ (HZ1.out.alloc _).lt (fun e => HNE.out e.symm))
              · exact ((HB.out.setCell (Nat.le_refl _) _).alloc (Nat.le_trans HB.out.size (by simp)) _).grown hgrow1 (Nat.le_trans HB.out.size (by first | (simp; done) | (simp; omega))) (fun kk hk => Nat.le_trans hwi (HRB.out kk hk).1)
            case measure => show T - (lm.length + 1) < T - lm.length; omega
          | true =>
            rw [hsk] at b0
            have h2 := HTR.out
            rw [trail_true hsk f, List.append_nil] at h2
            have hlm : ∃ k0 lr, lm = k0 :: lr := by
              obtain ⟨T', rfl⟩ : ∃ T', T = T' + 1 := ⟨T - 1, by omega⟩
              rw [trail_false HSJ.out T'] at h2
              injection h2 with _ h2
              exact ⟨_, _, h2.symm⟩
            obtain ⟨k0, lr, rfl⟩ := hlm
            rw [HS0.out] at h2
            have HL3 := Lib.hid (loops_cons h2)
            obtain ⟨x, hx⟩ : ∃ x : Lp, x = ((A', c'), k0 :: lr) := ⟨_, rfl⟩
            have HXX := Lib.hid hx
            have hxl : xs.length ≤ 48 := by omega
            have HRW := Lib.hid (HF.out.row.alloc (.cells #[.slice A' (lr.length + 1) c'] 52))
            have HRB : Hid (∀ r, (Value.slice X xs.length c).ownBlock = some r → w.heap.size ≤ r ∧ ∃ cs, Has wo r 52 cs) := fun r hr => ⟨(HF.out.row.lt r hr).1, own_cells2 HF.out.row hr⟩
            clear hsk h2 hx
            go_wp2_with (at_builtin; go_loud (refine wpList_app rfl (.tmp 38) (.tmp 40) _ rfl w.heap.size 52 (.slice none 0 0) 1 24 Try.underlying35 infoSl rfl (by omega) (by omega) _ _ _ rfl HRW.out wo.heap.size [.slice A' (lr.length + 1) c'] rfl rfl (news_new _ _ _) (fun u hu => by simp at hu; subst hu; rfl) (by omega) (by first | (simp; done) | (simp; omega)) ?_; intro ga cap1 w2 hg1 hown1 hgrow1 hor1))
            have hsame : ∀ r, r < wo.heap.size → (Value.slice X xs.length c).ownBlock ≠ some r → w2.heap[r]? = wo.heap[r]? := fun r h1 h3 => (hgrow1.block r (by first | (simp; done) | (simp; omega)) (fun e => h3 e.symm)).trans (Below.heap_alloc _ _ r h1)
            have q8 : wo.heap.size ≤ w2.heap.size := Nat.le_trans (by first | (simp; done) | (simp; omega)) hgrow1.size
            have hint : ∀ (y : Lp) (B : Nat), wo.ownsRow B 3 1 (slV y) y.2.length (y.2.map vNat) → w2.ownsRow B 3 1 (slV y) y.2.length (y.2.map vNat) := fun y B hy => own_same hy (fun g hg => by
              obtain ⟨cs, hc⟩ := own_cells2 hy hg
              refine hsame g hc.lt (fun e => ?_)
              obtain ⟨_, cs', hc'⟩ := HRB.out g e
              exact absurd (hc.of_type hc') (by decide))
            go_roundw
            case rel =>
              refine ⟨some ⟨ga, 0, none⟩, cap1, j + 1, xs ++ [x], by rw [List.length_append]; rfl, by go_num, by omega, by rw [List.length_append, List.length_singleton]; omega, ?_, ?_, ?_, ?_⟩
              · show _ = _
                rw [HL3.out, List.map_append, HX.out, HXX.out]; rfl
              · refine ⟨?_, fun y hy => ?_⟩
                · rw [List.length_append, List.map_append, HXX.out]; exact hown1
                · rcases List.mem_append.1 hy with hy | hy
                  · exact ⟨hint y _ (HF.out.rows y hy).1, fun r hr => by have := (HF.out.rows y hy).2 r hr; omega⟩
                  · obtain rfl : y = x := by simpa using hy
                    have h5 : wo.ownsRow hi 3 1 (slV y) y.2.length (y.2.map vNat) := by rw [HXX.out]; exact HO.out
                    exact ⟨hint y _ (own_mono h5 hwi), fun r hr => by have := (h5.lt r hr).2; omega⟩
              · show Has _ _ _ _
                rw [HL3.out]
                exact HZ.out.same (hsame _ z0 (fun e => by obtain ⟨_, cs', hc'⟩ := HRB.out _ e; exact absurd (HZ.out.of_type hc') (by decide)))
              · exact (HB.out.alloc HB.out.size _).grown hgrow1 (Nat.le_trans HB.out.size (by first | (simp; done) | (simp; omega))) (fun kk hk => (HRB.out kk hk).1)
            case measure => first | (simp [intOf]; done) | (simp [intOf]; omega)
    · obtain rfl : j = T := by omega
      have hcc := own_caps HF.out.row
      go_wp2
      go_ret
      refine ⟨X, xs.length, c, rfl, ?_, ?_, hcc.1, hcc.2, HB.out⟩
      · have h := HF.out.rdL
        rw [HX.out] at h; exact h
      · show (Cyc.loopsTo nx j j).2.length = _
        rw [← HX.out, List.length_map]
/-- the loops of the joints of a valid sheet, from memory -/
theorem loops37s {p : Int} {ws : List Wk} {h d : Nat} (hok : SOk p ws) (A : Option Addr) (w : World) (hr : RdI w w.heap.size A (nxL ws (2 * p).toNat h (2 * p).toNat)) :
    Calls Try.prog 37 #[.slice A (2 * p).toNat d] w fun e w' => ∃ A n c, e = .returned (.slice A n c) ∧ RdL w' w'.heap.size A (loopsS ws (2 * p).toNat h) ∧ (loopsS ws (2 * p).toNat h).length = n ∧ n ≤ c ∧ c ≤ 9223372036854775807 ∧ Below w.heap.size w w' :=
  loops37 A (2 * p).toNat d (nxS ws (2 * p).toNat h) _ w (by have := hok.le; omega) (nxS_perm hok h) (fun t ht => nxL_get ws ht ht) hr (nxL_len _ _ _ _)
set_option maxRecDepth 100000 in
set_option maxHeartbeats 1000000 in
theorem loops17 (p : Int) (A : Option Addr) (n c : Nat) (h : Int) (ws : List Wk) (w : World) (hn : n ≤ 9223372036854775807) (hw : RdW w w.heap.size A ws) (hl : ws.length = n)
    (hs : ∀ x ∈ ws, x.word.size ≤ 9223372036854775807) :
    Calls Try.prog 17 #[.agg #[.int .i64 p, .slice A n c], .int .i64 h] w (RetLE (loopsR p ws h) (seE p ws h) w) := by
  have CA := Lib.hid (fun (W : World) (hb : Below w.heap.size w W) => asked32 p A n c h ws W hn (hw.up hb) hl hs)
  have K0 : Has (w.alloc (.cells #[.int .i64 p, .slice A n c] 24)) w.heap.size 24 [.int .i64 p, .slice A n c] := Has.new rfl
  by_cases hE : seE p ws h = 0
  case neg =>
    have e : loopsR p ws h = [] := by unfold loopsR; rw [if_neg hE]
    rw [e]
    have hd : (seE p ws h != 0) = true := by simpa using hE
    generalize seE p ws h = q at *
    clear hE e hw hl hs
    go_enter Try.func17, Try.ntmps17
    go_wp2_with fail
    refine (CA.out _ (by go_grown)).mono ?_
    rintro e w1 ⟨rfl, hb1⟩
    go_wp2
    go_ret2
    exact ⟨none, 0, 0, rfl, fun k l hk => by simp at hk, rfl, Nat.le_refl _, by omega, bvia (by go_grown) hb1⟩
  have hR : loopsR p ws h = loopsS ws (2 * p).toNat h.toNat := by unfold loopsR; rw [if_pos hE]
  obtain ⟨g1, g2, g3⟩ := seE_zero hE
  obtain ⟨H, rfl⟩ := Int.eq_ofNat_of_zero_le g2
  rw [show ((H : Nat) : Int).toNat = H by simp] at hR
  rw [hR]
  rw [hE] at CA ⊢
  have HOK := Lib.hid (schk_zero g1)
  have CJ := Lib.hid (fun (W : World) (hb : Below w.heap.size w W) => joints38 p A n c H ws W hn (hw.up hb) hl g1 g3)
  clear hE hR g1 g2 g3 hw hl hs
  go_enter Try.func17, Try.ntmps17
  go_wp2_with fail
  refine (CA.out _ (by go_grown)).mono ?_
  rintro e w1 ⟨rfl, hb1⟩
  have HB := Lib.hid (bvia (show Below w.heap.size w _ by go_grown) hb1)
  have HK := Lib.hid (K0.below hb1 K0.lt)
  have n0 : w1.cell? ⟨w.heap.size, 0, none⟩ = some (.int .i64 p) := HK.out.cell 0
  have n1 : w1.cell? ⟨w.heap.size, 1, none⟩ = some (.slice A n c) := HK.out.cell 1
  have q0 := HK.out.lt
  clear K0 hb1
  go_wp2_with fail
  refine (CJ.out _ HB.out).mono ?_
  rintro e w3 ⟨A3, n3, c3, rfl, hr3, hl3, hn3, hc3, hb3⟩
  rw [nxL_len] at hl3
  subst hl3
  have B3 := bvia HB.out hb3
  clear hb3 n0 n1
  go_wp2_with fail
  refine (loops37s HOK.out A3 w3 hr3).mono ?_
  rintro e w6 ⟨A6, n6, c6, rfl, hr6, hl6, hn6, hc6, hb6⟩
  go_wp2
  go_ret2
  exact ⟨A6, n6, c6, rfl, hr6, hl6, hn6, hc6, bvia B3 hb6⟩
end Go.Proofs.Ytdimfbmbomgiaaa
