/-
  Contracts of chapter 6: Reduce, the program's.
-/
import Derived.Test.YtmghpaibdgkbfaaVB5
import Derived.Test.YtmghpaibdgkbfaaVB7
import Derived.Deep.CutRange
import Derived.Shelf.SlSortCmp.WholeK
namespace Go.Proofs.Ytmghpaibdgkbfaa
open Go.RowKit
def redM (l : La.Lat) (m : La.Mat) : La.Mat := lstTo ((grp l 81).map (La.mul m)) ((grp l 81).length - 1)
set_option maxRecDepth 100000 in
set_option maxHeartbeats 1000000 in
theorem reduceNC (a b c : Int) (w : World) (h : okL a b c = false) : Calls Try.prog 24 #[vL a b c] w fun e w' => e = .returned (.tuple #[vL 0 0 0, vM 0 0 0 0, .int .i64 2]) ∧ Below w.heap.size w w' := by
  have CC := Lib.hid (fun W => checkC a b c W)
  rw [show errL a b c = 2 from if_neg (by rw [h]; decide)] at CC
  have G0 : Hid (Has (boxW w [cL a b c, ([.int .i64 0, .int .i64 0, .int .i64 0], 23), ([.int .i64 0, .int .i64 0, .int .i64 0, .int .i64 0], 40)]) (w.heap.size) 23 [.int .i64 a, .int .i64 b, .int .i64 c]) := box_has [cL a b c, ([.int .i64 0, .int .i64 0, .int .i64 0], 23), ([.int .i64 0, .int .i64 0, .int .i64 0, .int .i64 0], 40)] (w := w) (Below.refl _ _) (i := 0) rfl
  have G1 : Hid (Has (boxW w [cL a b c, ([.int .i64 0, .int .i64 0, .int .i64 0], 23), ([.int .i64 0, .int .i64 0, .int .i64 0, .int .i64 0], 40)]) (w.heap.size + 1) 23 [.int .i64 0, .int .i64 0, .int .i64 0]) := box_has [cL a b c, ([.int .i64 0, .int .i64 0, .int .i64 0], 23), ([.int .i64 0, .int .i64 0, .int .i64 0, .int .i64 0], 40)] (w := w) (Below.refl _ _) (i := 1) rfl
  have G2 : Hid (Has (boxW w [cL a b c, ([.int .i64 0, .int .i64 0, .int .i64 0], 23), ([.int .i64 0, .int .i64 0, .int .i64 0, .int .i64 0], 40)]) (w.heap.size + 1 + 1) 40 [.int .i64 0, .int .i64 0, .int .i64 0, .int .i64 0]) := box_has [cL a b c, ([.int .i64 0, .int .i64 0, .int .i64 0], 23), ([.int .i64 0, .int .i64 0, .int .i64 0, .int .i64 0], 40)] (w := w) (Below.refl _ _) (i := 2) rfl
  have B0 := Lib.hid (boxW_below [cL a b c, ([.int .i64 0, .int .i64 0, .int .i64 0], 23), ([.int .i64 0, .int .i64 0, .int .i64 0, .int .i64 0], 40)] w)
  obtain ⟨W1, hW1⟩ : ∃ W1, W1 = boxW w [cL a b c, ([.int .i64 0, .int .i64 0, .int .i64 0], 23), ([.int .i64 0, .int .i64 0, .int .i64 0, .int .i64 0], 40)] := ⟨_, rfl⟩
  rw [← hW1] at G0 G1 G2 B0
  go_enter Try.func24, Try.ntmps24
  go_upto_region 1 with (fail)
  rw [show ((w.alloc (.cells #[.int .i64 a, .int .i64 b, .int .i64 c] 23)).alloc (.cells #[.int .i64 0, .int .i64 0, .int .i64 0] 23)).alloc (.cells #[.int .i64 0, .int .i64 0, .int .i64 0, .int .i64 0] 40) = W1 from hW1.symm]
  clear hW1
  have c0 : W1.cell? ⟨w.heap.size, 0, none⟩ = some (.int .i64 a) := G0.out.cell 0
  have c1 : W1.cell? ⟨w.heap.size, 1, none⟩ = some (.int .i64 b) := G0.out.cell 1
  have c2 : W1.cell? ⟨w.heap.size, 2, none⟩ = some (.int .i64 c) := G0.out.cell 2
  go_wp2_with fail
  refine (CC.out _).mono ?_
  rintro e w1 ⟨rfl, hb1⟩
  replace G1 := Lib.hid (G1.out.below hb1 G1.out.lt)
  replace G2 := Lib.hid (G2.out.below hb1 G2.out.lt)
  replace B0 := Lib.hid (bvia B0.out hb1)
  clear hb1 c0 c1 c2
  have c0 : w1.cell? ⟨w.heap.size + 1, 0, none⟩ = some (.int .i64 0) := G1.out.cell 0
  have fc0 : w1.frozen? ⟨w.heap.size + 1, 0, none⟩ = false := G1.out.free 0
  have c1 : w1.cell? ⟨w.heap.size + 1, 1, none⟩ = some (.int .i64 0) := G1.out.cell 1
  have fc1 : w1.frozen? ⟨w.heap.size + 1, 1, none⟩ = false := G1.out.free 1
  have c2 : w1.cell? ⟨w.heap.size + 1, 2, none⟩ = some (.int .i64 0) := G1.out.cell 2
  have fc2 : w1.frozen? ⟨w.heap.size + 1, 2, none⟩ = false := G1.out.free 2
  have d0 : w1.cell? ⟨w.heap.size + 1 + 1, 0, none⟩ = some (.int .i64 0) := G2.out.cell 0
  have fd0 : w1.frozen? ⟨w.heap.size + 1 + 1, 0, none⟩ = false := G2.out.free 0
  have d1 : w1.cell? ⟨w.heap.size + 1 + 1, 1, none⟩ = some (.int .i64 0) := G2.out.cell 1
  have fd1 : w1.frozen? ⟨w.heap.size + 1 + 1, 1, none⟩ = false := G2.out.free 1
  have d2 : w1.cell? ⟨w.heap.size + 1 + 1, 2, none⟩ = some (.int .i64 0) := G2.out.cell 2
  have fd2 : w1.frozen? ⟨w.heap.size + 1 + 1, 2, none⟩ = false := G2.out.free 2
  have d3 : w1.cell? ⟨w.heap.size + 1 + 1, 3, none⟩ = some (.int .i64 0) := G2.out.cell 3
  have fd3 : w1.frozen? ⟨w.heap.size + 1 + 1, 3, none⟩ = false := G2.out.free 3
  go_wp2
  refine post_cell2_tmp (cs := [.int .i64 0, .int .i64 0, .int .i64 0]) (ds := [.int .i64 0, .int .i64 0, .int .i64 0, .int .i64 0]) (((((((G1.out.set 0 (.int .i64 0)).set 1 (.int .i64 0)).set 2 (.int .i64 0)).far (by omega) 0 _).far (by omega) 1 _).far (by omega) 2 _).far (by omega) 3 _) (((((((G2.out.far (by omega) 0 _).far (by omega) 1 _).far (by omega) 2 _).set 0 (.int .i64 0)).set 1 (.int .i64 0)).set 2 (.int .i64 0)).set 3 (.int .i64 0)) Try.results24 rfl rfl rfl rfl Try.underlying23 (by kernel_rfl) Try.underlying40 (by kernel_rfl) ⟨rfl, (((((((B0.out.setCell (p := ⟨w.heap.size + 1, 0, none⟩) (show w.heap.size ≤ w.heap.size + 1 by omega) _).setCell (p := ⟨w.heap.size + 1, 1, none⟩) (show w.heap.size ≤ w.heap.size + 1 by omega) _).setCell (p := ⟨w.heap.size + 1, 2, none⟩) (show w.heap.size ≤ w.heap.size + 1 by omega) _).setCell (p := ⟨w.heap.size + 1 + 1, 0, none⟩) (show w.heap.size ≤ w.heap.size + 1 + 1 by omega) _).setCell (p := ⟨w.heap.size + 1 + 1, 1, none⟩) (show w.heap.size ≤ w.heap.size + 1 + 1 by omega) _).setCell (p := ⟨w.heap.size + 1 + 1, 2, none⟩) (show w.heap.size ≤ w.heap.size + 1 + 1 by omega) _).setCell (p := ⟨w.heap.size + 1 + 1, 3, none⟩) (show w.heap.size ≤ w.heap.size + 1 + 1 by omega) _)⟩
set_option maxRecDepth 100000 in
set_option maxHeartbeats 4000000 in
theorem reduceTC (a b c : Int) (w : World) (h : okL a b c = true) : Calls Try.prog 24 #[vL a b c] w fun e w' => (∃ (l : La.Lat) (m : La.Mat), La.St ⟨a, b, c⟩ l m ∧ La.Red l ∧ e = .returned (.tuple #[vL l.a l.b l.c, vM (redM l m).a (redM l m).b (redM l m).c (redM l m).d, .int .i64 0])) ∧ Below w.heap.size w w' := by
  have CC := Lib.hid (fun W => checkC a b c W)
  rw [show errL a b c = 0 from if_pos h] at CC
  have CR := Lib.hid (fun W => reduceC a b c W h)
  have HOK := Lib.hid h
  clear h
  have G0 : Hid (Has (boxW w [cL a b c, ([.int .i64 0, .int .i64 0, .int .i64 0], 23), ([.int .i64 0, .int .i64 0, .int .i64 0, .int .i64 0], 40)]) (w.heap.size) 23 [.int .i64 a, .int .i64 b, .int .i64 c]) := box_has [cL a b c, ([.int .i64 0, .int .i64 0, .int .i64 0], 23), ([.int .i64 0, .int .i64 0, .int .i64 0, .int .i64 0], 40)] (w := w) (Below.refl _ _) (i := 0) rfl
  have G1 : Hid (Has (boxW w [cL a b c, ([.int .i64 0, .int .i64 0, .int .i64 0], 23), ([.int .i64 0, .int .i64 0, .int .i64 0, .int .i64 0], 40)]) (w.heap.size + 1) 23 [.int .i64 0, .int .i64 0, .int .i64 0]) := box_has [cL a b c, ([.int .i64 0, .int .i64 0, .int .i64 0], 23), ([.int .i64 0, .int .i64 0, .int .i64 0, .int .i64 0], 40)] (w := w) (Below.refl _ _) (i := 1) rfl
  have G2 : Hid (Has (boxW w [cL a b c, ([.int .i64 0, .int .i64 0, .int .i64 0], 23), ([.int .i64 0, .int .i64 0, .int .i64 0, .int .i64 0], 40)]) (w.heap.size + 1 + 1) 40 [.int .i64 0, .int .i64 0, .int .i64 0, .int .i64 0]) := box_has [cL a b c, ([.int .i64 0, .int .i64 0, .int .i64 0], 23), ([.int .i64 0, .int .i64 0, .int .i64 0, .int .i64 0], 40)] (w := w) (Below.refl _ _) (i := 2) rfl
  have B0 := Lib.hid (boxW_below [cL a b c, ([.int .i64 0, .int .i64 0, .int .i64 0], 23), ([.int .i64 0, .int .i64 0, .int .i64 0, .int .i64 0], 40)] w)
  obtain ⟨W1, hW1⟩ : ∃ W1, W1 = boxW w [cL a b c, ([.int .i64 0, .int .i64 0, .int .i64 0], 23), ([.int .i64 0, .int .i64 0, .int .i64 0, .int .i64 0], 40)] := ⟨_, rfl⟩
  rw [← hW1] at G0 G1 G2 B0
  go_enter Try.func24, Try.ntmps24
  go_upto_region 1 with (fail)
  rw [show ((w.alloc (.cells #[.int .i64 a, .int .i64 b, .int .i64 c] 23)).alloc (.cells #[.int .i64 0, .int .i64 0, .int .i64 0] 23)).alloc (.cells #[.int .i64 0, .int .i64 0, .int .i64 0, .int .i64 0] 40) = W1 from hW1.symm]
  clear hW1
  have c0 : W1.cell? ⟨w.heap.size, 0, none⟩ = some (.int .i64 a) := G0.out.cell 0
  have c1 : W1.cell? ⟨w.heap.size, 1, none⟩ = some (.int .i64 b) := G0.out.cell 1
  have c2 : W1.cell? ⟨w.heap.size, 2, none⟩ = some (.int .i64 c) := G0.out.cell 2
  go_wp2_with fail
  refine (CC.out _).mono ?_
  rintro e w1 ⟨rfl, hb1⟩
  replace G0 := Lib.hid (G0.out.below hb1 G0.out.lt)
  replace G1 := Lib.hid (G1.out.below hb1 G1.out.lt)
  replace G2 := Lib.hid (G2.out.below hb1 G2.out.lt)
  replace B0 := Lib.hid (bvia B0.out hb1)
  clear hb1 c0 c1 c2
  have c0 : w1.cell? ⟨w.heap.size, 0, none⟩ = some (.int .i64 a) := G0.out.cell 0
  have c1 : w1.cell? ⟨w.heap.size, 1, none⟩ = some (.int .i64 b) := G0.out.cell 1
  have c2 : w1.cell? ⟨w.heap.size, 2, none⟩ = some (.int .i64 c) := G0.out.cell 2
  go_wp2_with fail
  refine (CR.out _).mono ?_
  rintro e w2 ⟨⟨l, m, rfl, ST, RD⟩, hb2⟩
  replace G0 := Lib.hid (G0.out.below hb2 G0.out.lt)
  replace G1 := Lib.hid (G1.out.below hb2 G1.out.lt)
  replace G2 := Lib.hid (G2.out.below hb2 G2.out.lt)
  replace B0 := Lib.hid (bvia B0.out hb2)
  clear hb2 c0 c1 c2
  have HST := Lib.hid ST
  have HRD := Lib.hid RD
  obtain ⟨hv, hA, hC⟩ := okL_val HOK.out
  have HF := Lib.hid (ST.fit hv hA hC)
  have hla : In6 10000 l.a := ⟨by have := ST.v.a1; omega, ST.ba⟩
  have hlc : In6 10000 l.c := ⟨by have := ST.v.c1; omega, ST.bc⟩
  have hlb : In6 10000 l.b := ST.v.b_lt ST.ba ST.bc
  have CG : Hid (∀ W : World, _) := Lib.hid (fun W => groupC l.a l.b l.c W hla hlb hlc)
  have hlt0 := G2.out.lt
  clear ST RD hv hA hC hla hlb hlc CC CR
  have D1 := Lib.hid ((Below.refl w2.heap.size w2).alloc (Nat.le_refl _) (.cells #[.int .i64 l.a, .int .i64 l.b, .int .i64 l.c] 23))
  have D2 := Lib.hid (D1.out.alloc (by simp) (.cells #[.int .i64 m.a, .int .i64 m.b, .int .i64 m.c, .int .i64 m.d] 40))
  have G6 : Hid (Has ((w2.alloc (.cells #[.int .i64 l.a, .int .i64 l.b, .int .i64 l.c] 23)).alloc (.cells #[.int .i64 m.a, .int .i64 m.b, .int .i64 m.c, .int .i64 m.d] 40)) (w2.heap.size) 23 [.int .i64 l.a, .int .i64 l.b, .int .i64 l.c]) := Has.alloc (Has.new rfl) _
  have G7 : Hid (Has ((w2.alloc (.cells #[.int .i64 l.a, .int .i64 l.b, .int .i64 l.c] 23)).alloc (.cells #[.int .i64 m.a, .int .i64 m.b, .int .i64 m.c, .int .i64 m.d] 40)) (w2.heap.size + 1) 40 [.int .i64 m.a, .int .i64 m.b, .int .i64 m.c, .int .i64 m.d]) := Has.new2 rfl
  replace G1 := Lib.hid (G1.out.below D2.out G1.out.lt)
  replace G2 := Lib.hid (G2.out.below D2.out G2.out.lt)
  replace B0 := Lib.hid (bvia B0.out D2.out)
  clear D1 D2 G0
  go_upto_region 5 with (fail)
  generalize (w2.alloc (.cells #[.int .i64 l.a, .int .i64 l.b, .int .i64 l.c] 23)).alloc (.cells #[.int .i64 m.a, .int .i64 m.b, .int .i64 m.c, .int .i64 m.d] 40) = W3 at *
  have hw2 : w.heap.size + 2 < w2.heap.size := hlt0
  generalize w2.heap.size = K at *
  have HLT := Lib.hid G7.out.lt
  have c0 : W3.cell? ⟨K, 0, none⟩ = some (.int .i64 l.a) := G6.out.cell 0
  have c1 : W3.cell? ⟨K, 1, none⟩ = some (.int .i64 l.b) := G6.out.cell 1
  have c2 : W3.cell? ⟨K, 2, none⟩ = some (.int .i64 l.c) := G6.out.cell 2
  go_wp2_with fail
  refine (CG.out _).mono ?_
  rintro e w4 ⟨⟨A, cp, rfl, HO⟩, hb4⟩
  replace G1 := Lib.hid (G1.out.below hb4 G1.out.lt)
  replace G2 := Lib.hid (G2.out.below hb4 G2.out.lt)
  replace G6 := Lib.hid (G6.out.below hb4 G6.out.lt)
  replace G7 := Lib.hid (G7.out.below hb4 G7.out.lt)
  replace B0 := Lib.hid (bvia B0.out hb4)
  obtain ⟨n, hn⟩ : ∃ n, n = (grp l 81).length := ⟨_, rfl⟩
  have hn1 : 0 < n := by rw [hn]; exact grp_pos l
  have hn2 : n ≤ 81 := by rw [hn]; exact grp_len l 81
  rw [show (⟨l.a, l.b, l.c⟩ : La.Lat) = l from rfl, ← hn] at HO
  rw [show (⟨l.a, l.b, l.c⟩ : La.Lat) = l from rfl, ← hn]
  have HN := Lib.hid hn
  obtain ⟨g, T, rfl, hg, HG, hcp⟩ := own_has HO hn1
  have hKg : K + 1 < g := Nat.lt_of_lt_of_le HLT.out hg
  have HI : Hid (RedI w g K (K + 1) (msC (stL (La.mul m) (grp l 81) 0) ++ T) l m w4) := ⟨by rw [stL_zero]; exact HG, G6.out, G7.out, B0.out⟩
  have jn : (0 : Int) < (n : Int) := by omega
  clear hn HO HG hg HLT hb4 G6 G7 B0 CG c0 c1 c2
  go_wp2
  go_loopw [26] (fun i wr => ∃ k : Nat, k ≤ n ∧ i = .int .i64 (k : Int) ∧ Hid (RedI w g K (K + 1) (msC (stL (La.mul m) (grp l 81) k) ++ T) l m wr) ∧ Hid (Has wr (w.heap.size + 1) 23 [.int .i64 0, .int .i64 0, .int .i64 0]) ∧ Hid (Has wr (w.heap.size + 1 + 1) 40 [.int .i64 0, .int .i64 0, .int .i64 0, .int .i64 0])) (fun i _ => n - (intOf i).toNat)
  case atStart => exact ⟨0, Nat.zero_le _, rfl, HI, G1, G2⟩
  case round =>
    clear HI G1 G2
    obtain ⟨k, hk, rfl, HI, G1, G2⟩ := hrel
    obtain ⟨wo, rfl⟩ : ∃ wo : World, wo = wr := ⟨_, rfl⟩
    by_cases hlt : k < n
    · have jk : (k : Int) < (n : Int) := by omega
      have ik : IntKind.i64.wrap ((k : Int) + 1) = (k : Int) + 1 := IntWalk.i64_in _ (by omega)
      obtain ⟨x, hx⟩ := get_of_lt (l := grp l 81) (k := k) (by rw [← HN.out]; exact hlt)
      have hS := msC_get (show (stL (La.mul m) (grp l 81) k)[k]? = some x by rw [stL_split hx, List.append_assoc, List.getElem?_append_right (by simp; omega)]; simp; rw [show k - min k (grp l 81).length = 0 by have := lt_of_get hx; omega]; rfl) T
      have HX := Lib.hid (stL_set (f := La.mul m) hx T)
      obtain ⟨⟨xa, xb, xc, xd⟩, _⟩ := grp_mem (List.mem_of_getElem? hx)
      have e0 := hS 0 (by decide)
      have e1 := hS 1 (by decide)
      have e2 := hS 2 (by decide)
      have e3 := hS 3 (by decide)
      obtain ⟨⟨fa, fc⟩, ⟨fb, fd⟩⟩ := HF.out
      have CT : Hid (∀ W : World, Calls Try.prog 65 #[vM m.a m.b m.c m.d, vM x.a x.b x.c x.d] W fun e w' => e = .returned (vM (La.mul m x).a (La.mul m x).b (La.mul m x).c (La.mul m x).d) ∧ Below W.heap.size W w') := Lib.hid (fun W => timesC m.a m.b m.c m.d x.a x.b x.c x.d 10000 1 W fa fb fc fd xa xb xc xd (by decide))
      have hmx : mC (La.mul m x) = [.int .i64 (La.mul m x).a, .int .i64 (La.mul m x).b, .int .i64 (La.mul m x).c, .int .i64 (La.mul m x).d] := rfl
      have HL : Hid (k * 4 + 4 ≤ (msC (stL (La.mul m) (grp l 81) k) ++ T).length) := by show _ ≤ _; rw [List.length_append, msC_len, stL_len, ← HN.out]; omega
      have HMX := Lib.hid hmx
      clear hS hx xa xb xc xd fa fb fc fd hmx
      generalize La.mul m x = y at *
      go_upto_region 9 with (fail)
      refine wp_region_store [.q, .q, .q, .q, .q, .q, .q, .q, .q, .st 0] 9 3 ?aH
        (fun W => RedI w g K (K + 1) (msC (stL (La.mul m) (grp l 81) k) ++ T) l m W ∧ Has W (w.heap.size + 1) 23 [.int .i64 0, .int .i64 0, .int .i64 0] ∧ Has W (w.heap.size + 1 + 1) 40 [.int .i64 0, .int .i64 0, .int .i64 0, .int .i64 0])
        (fun W => RedI w g K (K + 1) (msC (stL (La.mul m) (grp l 81) (k + 1)) ++ T) l m W ∧ Has W (w.heap.size + 1) 23 [.int .i64 0, .int .i64 0, .int .i64 0] ∧ Has W (w.heap.size + 1 + 1) 40 [.int .i64 0, .int .i64 0, .int .i64 0, .int .i64 0])
        (by kernel_rfl) (by kernel_rfl) ⟨HI.out.next ⟨rfl, rfl, rfl, Nat.le_refl _, fun _ _ => rfl⟩, G1.out, G2.out⟩ (fun W W' h hb => ⟨h.1.next hb, h.2.1.below hb h.2.1.lt, h.2.2.below hb h.2.2.lt⟩) ?hq ?hS ?he
      case hq =>
        intro w5 h5
        have c0 : w5.cell? ⟨K + 1, 0, none⟩ = some (.int .i64 m.a) := h5.1.mat.cell 0
        have c1 : w5.cell? ⟨K + 1, 1, none⟩ = some (.int .i64 m.b) := h5.1.mat.cell 1
        have c2 : w5.cell? ⟨K + 1, 2, none⟩ = some (.int .i64 m.c) := h5.1.mat.cell 2
        have c3 : w5.cell? ⟨K + 1, 3, none⟩ = some (.int .i64 m.d) := h5.1.mat.cell 3
        have d0 : w5.cell? ⟨g, k * 4, none⟩ = some (.int .i64 x.a) := (h5.1.own.cell _).trans e0
        have d1 : w5.cell? ⟨g, k * 4 + 1, none⟩ = some (.int .i64 x.b) := (h5.1.own.cell _).trans e1
        have d2 : w5.cell? ⟨g, k * 4 + 2, none⟩ = some (.int .i64 x.c) := (h5.1.own.cell _).trans e2
        have d3 : w5.cell? ⟨g, k * 4 + 3, none⟩ = some (.int .i64 x.d) := (h5.1.own.cell _).trans e3
        have q0 := h5.1.mat.lt
        have q1 := h5.1.own.lt
        have hxc := fun (x : Ext w5) => x.cell
        clear h5
        show wpQuiet _ _ _ _ [_, _, _, _, _, _, _, _, _] _
        repeat (go_big_quiet_step ((go_at_call 65; exact ext_call (CT.out _))))
        refine wpQuiet_nil ?_
        rfl
      case hS =>
        intro o ho W h
        have hop : o.op = .store 40 (.tmp 37) (.tmp 36) := by rw [← Option.some.inj ho]
        obtain ⟨W', h1, h2, h3⟩ := store_mid (P := Try.prog) (x := .tmp 37) (y := .tmp 36) (vs := mC y) (ty := 40) (g := g) (k := k * 4) (cs := msC (stL (La.mul m) (grp l 81) k) ++ T) hop (b := ?aH) (W := W) rfl rfl (by kernel_rfl) HL.out (one_mat y) h.1.own
        rw [HX.out] at h2
        exact ⟨W', h1, h.1.put h3 h2 (by omega) (by omega) (by omega), h3.has h.2.1 (by omega), h3.has h.2.2 (by omega)⟩
      case he =>
        intro W h
        go_wp2
        refine ⟨⟨k + 1, by omega, by rw [Int.natCast_add]; rfl, Lib.hid h.1, Lib.hid h.2.1, Lib.hid h.2.2⟩, ?_⟩
        first | (simp [intOf]; done) | (simp [intOf]; omega)
    · obtain rfl : k = n := by omega
      have jk : ¬ (k : Int) < (k : Int) := by omega
      have HE : Hid (RedI w g K (K + 1) (msC ((grp l 81).map (La.mul m)) ++ T) l m wo) := by
        have := HI.out
        rw [stL_all (by rw [← HN.out]; exact Nat.le_refl _)] at this
        exact this
      have CM := Lib.hid (fun W (hr : RdM4 W W.heap.size (some ⟨g, 0, none⟩) ((grp l 81).map (La.mul m))) => minC (some ⟨g, 0, none⟩) k cp ((grp l 81).map (La.mul m)) W hr (by rw [List.length_map, HN.out]) (by omega) hn1)
      have HRM : Hid (redM l m = lstTo ((grp l 81).map (La.mul m)) (k - 1)) := by show _ = _; unfold redM; rw [HN.out]
      clear HI
      generalize lstTo ((grp l 81).map (La.mul m)) (k - 1) = y at *
      go_upto_region 11 with (fail)
      refine wp_region_two [.q, .q, .q, .st 0, .st 1, .q] ⟨2, 39, some (w.heap.size + 1), 23, [.int .i64 0, .int .i64 0, .int .i64 0], [.int .i64 l.a, .int .i64 l.b, .int .i64 l.c], vL l.a l.b l.c⟩ ⟨3, 41, some (w.heap.size + 1 + 1), 40, [.int .i64 0, .int .i64 0, .int .i64 0, .int .i64 0], [.int .i64 y.a, .int .i64 y.b, .int .i64 y.c, .int .i64 y.d], vM y.a y.b y.c y.d⟩ (w.heap.size + 1) (w.heap.size + 1 + 1) ?aH2 rfl rfl (by omega) (by kernel_rfl) (by kernel_rfl) rfl rfl G1.out G2.out ?hq2 ?hv2 ?hw2 ?hA2 ?he2
      case hq2 =>
        intro w8 h8
        have k6 := h8.has HE.out.lat (by simp; omega)
        have ko := h8.has HE.out.own (by simp; omega)
        have c0 : w8.cell? ⟨K, 0, none⟩ = some (.int .i64 l.a) := k6.cell 0
        have c1 : w8.cell? ⟨K, 1, none⟩ = some (.int .i64 l.b) := k6.cell 1
        have c2 : w8.cell? ⟨K, 2, none⟩ = some (.int .i64 l.c) := k6.cell 2
        have CM2 := Lib.hid (fun (x : Ext w8) => CM.out x.out ((rd_has ko).up x.below))
        have q0 := k6.lt
        have hxc := fun (x : Ext w8) => x.cell
        show wpQuiet _ _ _ _ [_, _, _, _] _
        repeat (go_big_quiet_step ((go_at_call 66; exact ext_call (CM2.out _))))
        refine wpQuiet_nil ?_
        rfl
      case hv2 => simp
      case hw2 => simp
      case hA2 =>
        refine ⟨fun x hx => ?_, fun x hx => ?_, trivial⟩ <;> (obtain rfl := Option.some.inj hx)
        · exact stOk_agg rfl rfl (by kernel_rfl) rfl (by kernel_rfl)
        · exact stOk_agg rfl rfl (by kernel_rfl) rfl (by kernel_rfl)
      case he2 =>
        intro w8 h8 K1 K2
        go_wp2
        have hlt := HE.out.below.size
        refine post_cell2_tmp K1 K2 Try.results24 rfl rfl rfl rfl Try.underlying23 (by kernel_rfl) Try.underlying40 (by kernel_rfl) ⟨⟨l, m, HST.out, HRD.out, ?_⟩, HE.out.below.trans (h8.below' hlt (by simp; omega))⟩
        rw [HRM.out]; rfl
end Go.Proofs.Ytmghpaibdgkbfaa
/-
  Plain law of GridsReduced and GridsShortest.
-/
namespace Go.Proofs.Ytmghpaibdgkbfaa
theorem lst_mem : ∀ (l : List La.Mat) (m : La.Mat), lst m l = m ∨ lst m l ∈ l
  | [], m => .inl rfl
  | x :: l, m => by
    show lst (if ordI x m < 0 then x else m) l = m ∨ lst (if ordI x m < 0 then x else m) l ∈ x :: l
    split
    · rcases lst_mem l x with h | h
      · right; rw [h]; exact List.mem_cons_self ..
      · right; exact List.mem_cons_of_mem _ h
    · rcases lst_mem l m with h | h
      · left; exact h
      · right; exact List.mem_cons_of_mem _ h
theorem lstTo_mem {l : List La.Mat} (k : Nat) (h : 0 < l.length) : lstTo l k ∈ l := by
  cases l with
  | nil => simp at h
  | cons m r =>
    show lst m (r.take k) ∈ m :: r
    rcases lst_mem (r.take k) m with h | h
    · rw [h]; exact List.mem_cons_self ..
    · exact List.mem_cons_of_mem _ (List.mem_of_mem_take h)
theorem redM_st {l0 l : La.Lat} {m : La.Mat} (h : La.St l0 l m) : La.St l0 l (redM l m) := by
  have hm := lstTo_mem (l := (grp l 81).map (La.mul m)) ((grp l 81).length - 1) (by rw [List.length_map]; exact grp_pos l)
  obtain ⟨g, hg, e⟩ := List.mem_map.1 hm
  have hk := (grp_mem hg).2
  have hu := La.lead_unit h.v.d1 hk
  show La.St l0 l (lstTo ((grp l 81).map (La.mul m)) ((grp l 81).length - 1))
  rw [← e]
  exact ⟨by rw [La.lead_mul, h.e, hk], La.unit_mul h.u hu, h.v, h.ba, h.bc⟩
theorem red_same {l0 r other s : La.Lat} {by_ m m' : La.Mat} (h : La.St l0 r by_) (hr : La.Red r) (hm : La.unit m) (ho : other = La.lead l0 m) (h' : La.St other s m') (hs : La.Red s) : r = s := by
  refine La.red_uniq (m := La.mul (La.mul (La.inv by_) m) m') hr h.v.a1 hs h'.v.a1 (La.unit_mul (La.unit_mul (La.unit_inv h.u) hm) h'.u) ?_
  rw [La.lead_mul, La.lead_mul, La.lead_inv h.u h.e, ← ho, h'.e]
/-- in the reduced lattice's own numbers -/
theorem back_to {l0 r : La.Lat} {m : La.Mat} (h : La.St l0 r m) (x y : Int) : ∃ u v : Int, x = m.a * u + m.b * v ∧ y = m.c * u + m.d * v := by
  have hs := La.unit_sq h.u
  have hd : La.det m = m.a * m.d - m.b * m.c := rfl
  refine ⟨La.det m * (m.d * x - m.b * y), La.det m * (m.a * y - m.c * x), ?_, ?_⟩
  · have : m.a * (La.det m * (m.d * x - m.b * y)) + m.b * (La.det m * (m.a * y - m.c * x)) = La.det m * (m.a * m.d - m.b * m.c) * x := by grind
    rw [this, ← hd, hs]; omega
  · have : m.c * (La.det m * (m.d * x - m.b * y)) + m.d * (La.det m * (m.a * y - m.c * x)) = La.det m * (m.a * m.d - m.b * m.c) * y := by grind
    rw [this, ← hd, hs]; omega
theorem shortest {l0 r : La.Lat} {m : La.Mat} (h : La.St l0 r m) (hr : La.Red r) (x y : Int) : ((x ≠ 0 ∨ y ≠ 0) → r.a ≤ La.prod l0 x y x y) ∧ (x * m.c - y * m.a ≠ 0 → r.c ≤ La.prod l0 x y x y) := by
  obtain ⟨u, v, rfl, rfl⟩ := back_to h x y
  rw [← La.prod_lead, h.e]
  refine ⟨fun hn => La.red_a hr h.v.a1 ?_, fun hn => La.red_c hr h.v.a1 ?_⟩
  · refine Classical.byContradiction fun hh => ?_
    have hu : u = 0 := Classical.byContradiction fun h1 => hh (.inl h1)
    have hv : v = 0 := Classical.byContradiction fun h1 => hh (.inr h1)
    rw [hu, hv] at hn
    simp at hn
  · intro hv
    rw [hv] at hn
    apply hn
    grind
theorem tmod_small {x n : Int} (h : -n < x ∧ x < n) : x.tmod n = x := by
  rcases Int.le_total 0 x with h0 | h0
  · rw [Int.tmod_eq_emod_of_nonneg h0, Int.emod_eq_of_lt h0 h.2]
  · have : x = -(-x) := by omega
    rw [this, Int.neg_tmod, Int.tmod_eq_emod_of_nonneg (by omega), Int.emod_eq_of_lt (by omega) (by omega)]
theorem tmod_in (x : Int) {n : Int} (h : 0 < n) : -n < x.tmod n ∧ x.tmod n < n := by
  rcases Int.le_total 0 x with h0 | h0
  · rw [Int.tmod_eq_emod_of_nonneg h0]
    exact ⟨by have := Int.emod_nonneg x (show n ≠ 0 by omega); omega, Int.emod_lt_of_pos x h⟩
  · have e : x = -(-x) := by omega
    rw [e, Int.neg_tmod, Int.tmod_eq_emod_of_nonneg (by omega)]
    have h1 := Int.emod_nonneg (-x) (show n ≠ 0 by omega)
    have h2 := Int.emod_lt_of_pos (-x) h
    omega
theorem prodL_la (a b c x y u v : Int) : prodL a b c x y u v = La.prod ⟨a, b, c⟩ x y u v := by unfold prodL La.prod; grind
theorem redOk {l : La.Lat} {l0 : La.Lat} {m : La.Mat} (h : La.St l0 l m) : okL l.a l.b l.c = true := by
  rw [okL_iff]
  have hb := h.v.b_lt h.ba h.bc
  refine ⟨h.v.a1, h.v.c1, h.ba, h.bc, hb.1, hb.2, ?_⟩
  have := h.v.d1
  unfold La.ld at this
  omega
end Go.Proofs.Ytmghpaibdgkbfaa
/-
  Contracts of chapter 6: the document's root and Less.
-/
namespace Go.Proofs.Ytmghpaibdgkbfaa
open Go.RowKit
theorem sq_mono {x y : Int} (hx : 0 ≤ x) (h : x ≤ y) : x * x ≤ y * y := Int.mul_le_mul h h hx (by omega)
theorem root_uniq {n s t : Int} (h0 : 0 ≤ s) (h1 : s * s ≤ n) (h2 : n < (s + 1) * (s + 1)) (k0 : 0 ≤ t) (k1 : t * t ≤ n) (k2 : n < (t + 1) * (t + 1)) : s = t := by
  rcases Int.lt_trichotomy s t with h | h | h
  · have := sq_mono (x := s + 1) (y := t) (by omega) (by omega); omega
  · exact h
  · have := sq_mono (x := t + 1) (y := s) (by omega) (by omega); omega
set_option maxRecDepth 100000 in
set_option maxHeartbeats 1000000 in
theorem rootC (n : Int) (w : World) (hn : 0 ≤ n ∧ n ≤ 100000000) : Calls Try.prog 94 #[.int .i64 n] w fun e w' => (∃ s : Int, 0 ≤ s ∧ s ≤ 10000 ∧ s * s ≤ n ∧ n < (s + 1) * (s + 1) ∧ e = .returned (.int .i64 s)) ∧ w = w' := by
  go_enter Try.func94, Try.ntmps94
  go_wp2
  go_loop [3, 4] (fun i j => ∃ lo hi : Int, i = .int .i64 lo ∧ j = .int .i64 hi ∧ Hid (0 ≤ lo ∧ lo < hi ∧ hi ≤ 20000 ∧ lo * lo ≤ n ∧ n < hi * hi)) (fun i j => (intOf j - intOf i).toNat)
  case atStart => exact ⟨0, 20000, rfl, rfl, Lib.hid ⟨by omega, by omega, by omega, by omega, by omega⟩⟩
  case round =>
    obtain ⟨lo, hi, rfl, rfl, H⟩ := hrel
    obtain ⟨h0, h1, h2, h3, h4⟩ := H.out
    have i1 : IntKind.i64.wrap (hi - lo) = hi - lo := IntWalk.i64_in _ (by omega)
    have i2 : IntKind.i64.wrap (lo + hi) = lo + hi := IntWalk.i64_in _ (by omega)
    by_cases hlt : 1 < hi - lo
    · obtain ⟨m, hm⟩ : ∃ m, m = (lo + hi).tdiv 2 := ⟨_, rfl⟩
      have hm2 : m = (lo + hi) / 2 := by rw [hm]; exact Int.tdiv_eq_ediv_of_nonneg (by omega)
      have m1 : lo < m := by omega
      have m2 : m < hi := by omega
      have mm := mb 20000 20000 400000000 (show -20000 ≤ m ∧ m ≤ 20000 by omega) (show -20000 ≤ m ∧ m ≤ 20000 by omega) (by decide)
      have i3 : IntKind.i64.wrap (m * m) = m * m := IntWalk.i64_in _ (by omega)
      have i4 : IntKind.i64.wrap m = m := IntWalk.i64_in _ (by omega)
      have i6 : wrap64 ((lo + hi).tdiv 2) = m := by rw [← hm]; exact IntWalk.wrap64_in _ (by omega)
      clear i4
      by_cases hc : m * m ≤ n
      · have HN : Hid (0 ≤ m ∧ m < hi ∧ hi ≤ 20000 ∧ m * m ≤ n ∧ n < hi * hi) := ⟨by omega, m2, h2, hc, h4⟩
        have HM : Hid ((intOf (.int .i64 hi) - intOf (.int .i64 m)).toNat < (intOf (.int .i64 hi) - intOf (.int .i64 lo)).toNat) := by show _ < _; simp only [intOf]; omega
        clear H h0 h1 h2 h3 h4 hm hm2 m1 m2 mm
        go_upto_region 4 with (fail)
        rw [i6]
        clear i6
        go_wp2
        exact ⟨⟨_, _, rfl, rfl, HN⟩, HM.out⟩
      · have HN : Hid (0 ≤ lo ∧ lo < m ∧ m ≤ 20000 ∧ lo * lo ≤ n ∧ n < m * m) := ⟨h0, m1, by omega, h3, by omega⟩
        have HM : Hid ((intOf (.int .i64 m) - intOf (.int .i64 lo)).toNat < (intOf (.int .i64 hi) - intOf (.int .i64 lo)).toNat) := by show _ < _; simp only [intOf]; omega
        clear H h0 h1 h2 h3 h4 hm hm2 m1 m2 mm
        go_upto_region 4 with (fail)
        rw [i6]
        clear i6
        go_wp2
        exact ⟨⟨_, _, rfl, rfl, HN⟩, HM.out⟩
    · have e1 : hi = lo + 1 := by omega
      subst e1
      have h5 : lo ≤ 10000 := by
        refine Int.not_lt.1 fun h => ?_
        have := sq_mono (x := 10001) (y := lo) (by decide) (by omega)
        omega
      have HE : Hid (0 ≤ lo ∧ lo ≤ 10000 ∧ lo * lo ≤ n ∧ n < (lo + 1) * (lo + 1)) := ⟨h0, h5, h3, h4⟩
      clear H h0 h1 h2 h3 h4 h5
      go_wp2
      go_ret
      exact ⟨⟨lo, HE.out.1, HE.out.2.1, HE.out.2.2.1, HE.out.2.2.2, rfl⟩, rfl⟩
theorem cmpI_same (a : Int) : cmpI a a = 0 := by unfold cmpI; rw [if_neg (by omega), if_neg (by omega)]
theorem cmpI_ne {a p : Int} (h : a ≠ p) : cmpI a p ≠ 0 := by unfold cmpI; split <;> (try split) <;> omega
theorem cmpI_lt (a p : Int) : cmpI a p < 0 ↔ a < p := by
  unfold cmpI; split <;> (try split) <;> omega
theorem less_iff (a b c d p q r s : Int) : ordI ⟨a, b, c, d⟩ ⟨p, q, r, s⟩ < 0 ↔ if a = p then (if b = q then (if c = r then d < s else c < r) else b < q) else a < p := by
  unfold ordI
  simp only [orL]
  by_cases h1 : a = p
  · subst h1
    rw [if_pos rfl, cmpI_same, if_neg (by decide)]
    by_cases h2 : b = q
    · subst h2
      rw [if_pos rfl, cmpI_same, if_neg (by decide)]
      by_cases h3 : c = r
      · subst h3
        rw [if_pos rfl, cmpI_same, if_neg (by decide)]
        by_cases h4 : d = s
        · subst h4
          rw [cmpI_same, if_neg (by decide)]; omega
        · rw [if_pos (cmpI_ne h4), cmpI_lt]
      · rw [if_neg h3, if_pos (cmpI_ne h3), cmpI_lt]
    · rw [if_neg h2, if_pos (cmpI_ne h2), cmpI_lt]
  · rw [if_neg h1, if_pos (cmpI_ne h1), cmpI_lt]
set_option maxRecDepth 100000 in
set_option maxHeartbeats 1000000 in
theorem lessC (x y : La.Mat) (w : World) : Calls Try.prog 90 #[vM x.a x.b x.c x.d, vM y.a y.b y.c y.d] w fun e w' => e = .returned (.bool (decide (ordI x y < 0))) ∧ Below w.heap.size w w' := by
  obtain ⟨a, b, c, d⟩ := x
  obtain ⟨p, q, r, s⟩ := y
  have HO := less_iff a b c d p q r s
  obtain ⟨D, hD⟩ : ∃ D, D = decide (ordI ⟨a, b, c, d⟩ ⟨p, q, r, s⟩ < 0) := ⟨_, rfl⟩
  simp only
  rw [← hD]
  have G0 : Hid (Has (boxW w [([.int .i64 a, .int .i64 b, .int .i64 c, .int .i64 d], 40), ([.int .i64 p, .int .i64 q, .int .i64 r, .int .i64 s], 40)]) (w.heap.size) 40 [.int .i64 a, .int .i64 b, .int .i64 c, .int .i64 d]) := box_has [([.int .i64 a, .int .i64 b, .int .i64 c, .int .i64 d], 40), ([.int .i64 p, .int .i64 q, .int .i64 r, .int .i64 s], 40)] (w := w) (Below.refl _ _) (i := 0) rfl
  have G1 : Hid (Has (boxW w [([.int .i64 a, .int .i64 b, .int .i64 c, .int .i64 d], 40), ([.int .i64 p, .int .i64 q, .int .i64 r, .int .i64 s], 40)]) (w.heap.size + 1) 40 [.int .i64 p, .int .i64 q, .int .i64 r, .int .i64 s]) := box_has [([.int .i64 a, .int .i64 b, .int .i64 c, .int .i64 d], 40), ([.int .i64 p, .int .i64 q, .int .i64 r, .int .i64 s], 40)] (w := w) (Below.refl _ _) (i := 1) rfl
  have B := Lib.hid (boxW_below [([.int .i64 a, .int .i64 b, .int .i64 c, .int .i64 d], 40), ([.int .i64 p, .int .i64 q, .int .i64 r, .int .i64 s], 40)] w)
  obtain ⟨W1, hW1⟩ : ∃ W1, W1 = boxW w [([.int .i64 a, .int .i64 b, .int .i64 c, .int .i64 d], 40), ([.int .i64 p, .int .i64 q, .int .i64 r, .int .i64 s], 40)] := ⟨_, rfl⟩
  rw [← hW1] at G0 G1 B
  go_enter Try.func90, Try.ntmps90
  go_upto_region 1 with (fail)
  rw [show (w.alloc (.cells #[.int .i64 a, .int .i64 b, .int .i64 c, .int .i64 d] 40)).alloc (.cells #[.int .i64 p, .int .i64 q, .int .i64 r, .int .i64 s] 40) = W1 from hW1.symm]
  clear hW1
  have cG00 : W1.cell? ⟨w.heap.size, 0, none⟩ = some (.int .i64 a) := G0.out.cell 0
  have cG01 : W1.cell? ⟨w.heap.size, 1, none⟩ = some (.int .i64 b) := G0.out.cell 1
  have cG02 : W1.cell? ⟨w.heap.size, 2, none⟩ = some (.int .i64 c) := G0.out.cell 2
  have cG03 : W1.cell? ⟨w.heap.size, 3, none⟩ = some (.int .i64 d) := G0.out.cell 3
  have cG10 : W1.cell? ⟨w.heap.size + 1, 0, none⟩ = some (.int .i64 p) := G1.out.cell 0
  have cG11 : W1.cell? ⟨w.heap.size + 1, 1, none⟩ = some (.int .i64 q) := G1.out.cell 1
  have cG12 : W1.cell? ⟨w.heap.size + 1, 2, none⟩ = some (.int .i64 r) := G1.out.cell 2
  have cG13 : W1.cell? ⟨w.heap.size + 1, 3, none⟩ = some (.int .i64 s) := G1.out.cell 3
  by_cases h1 : a = p
  · subst h1
    rw [if_pos rfl] at HO
    by_cases h2 : b = q
    · subst h2
      rw [if_pos rfl] at HO
      by_cases h3 : c = r
      · subst h3
        rw [if_pos rfl] at HO
        have HO := Lib.hid (show D = decide (d < s) from hD.trans (decide_eq_decide.2 HO))
        clear hD
        go_wp2
        go_ret
        exact ⟨by rw [HO.out]; rfl, B.out⟩
      · rw [if_neg h3] at HO
        have HO := Lib.hid (show D = decide (c < r) from hD.trans (decide_eq_decide.2 HO))
        clear hD
        go_wp2
        go_ret
        exact ⟨by rw [HO.out]; rfl, B.out⟩
    · rw [if_neg h2] at HO
      have HO := Lib.hid (show D = decide (b < q) from hD.trans (decide_eq_decide.2 HO))
      clear hD
      go_wp2
      go_ret
      exact ⟨by rw [HO.out]; rfl, B.out⟩
  · rw [if_neg h1] at HO
    have HO := Lib.hid (show D = decide (a < p) from hD.trans (decide_eq_decide.2 HO))
    clear hD
    go_wp2
    go_ret
    exact ⟨by rw [HO.out]; rfl, B.out⟩
end Go.Proofs.Ytmghpaibdgkbfaa
/-
  Plain law of lists of matrices in order: insertion, and that a list in order is what its members say.
-/
namespace Go.Proofs.Ytmghpaibdgkbfaa
theorem lt_iff (x y : La.Mat) : ordI x y < 0 ↔ x.a < y.a ∨ (x.a = y.a ∧ (x.b < y.b ∨ (x.b = y.b ∧ (x.c < y.c ∨ (x.c = y.c ∧ x.d < y.d))))) := by
  obtain ⟨a, b, c, d⟩ := x
  obtain ⟨p, q, r, s⟩ := y
  rw [less_iff]
  simp only
  split
  · split
    · split <;> omega
    · omega
  · omega
theorem lt_irr (x : La.Mat) : ¬ ordI x x < 0 := by rw [lt_iff]; omega
theorem lt_tr {x y z : La.Mat} (h : ordI x y < 0) (k : ordI y z < 0) : ordI x z < 0 := by rw [lt_iff] at *; omega
theorem lt_tri {x y : La.Mat} (h : ¬ ordI x y < 0) (k : ¬ ordI y x < 0) : x = y := by
  rw [lt_iff] at h k
  obtain ⟨a, b, c, d⟩ := x
  obtain ⟨p, q, r, s⟩ := y
  simp only at h k
  rw [La.Mat.mk.injEq]
  refine ⟨?_, ?_, ?_, ?_⟩ <;> omega
theorem lt_not {x y : La.Mat} (h : ordI x y < 0) : ¬ ordI y x < 0 := fun k => lt_irr x (lt_tr h k)
def Srt (l : List La.Mat) : Prop := l.Pairwise (fun x y => ordI x y < 0)
def ins (m : La.Mat) : List La.Mat → List La.Mat
  | [] => [m]
  | x :: r => if ordI x m < 0 then x :: ins m r else m :: x :: r
theorem mem_ins {m x : La.Mat} : ∀ {l : List La.Mat}, x ∈ ins m l ↔ x = m ∨ x ∈ l
  | [] => by simp [ins]
  | y :: r => by
    unfold ins
    split
    · rw [List.mem_cons, mem_ins, List.mem_cons]
      constructor
      · rintro (h | h | h)
        · exact .inr (.inl h)
        · exact .inl h
        · exact .inr (.inr h)
      · rintro (h | h | h)
        · exact .inr (.inl h)
        · exact .inl h
        · exact .inr (.inr h)
    · rw [List.mem_cons]
theorem ins_len (m : La.Mat) : ∀ l : List La.Mat, (ins m l).length = l.length + 1
  | [] => rfl
  | y :: r => by
    unfold ins
    split
    · rw [List.length_cons, ins_len m r, List.length_cons]
    · rfl
theorem srt_ins {m : La.Mat} : ∀ {l : List La.Mat}, Srt l → m ∉ l → Srt (ins m l)
  | [], _, _ => by simp [ins, Srt]
  | y :: r, h, hm => by
    unfold Srt at h
    rw [List.pairwise_cons] at h
    have hy : ¬ m = y := fun e => hm (by rw [e]; exact List.mem_cons_self)
    unfold ins
    split
    · rename_i hl
      refine List.pairwise_cons.2 ⟨fun z hz => ?_, srt_ins h.2 (fun k => hm (List.mem_cons_of_mem _ k))⟩
      rcases mem_ins.1 hz with e | e
      · rw [e]; exact hl
      · exact h.1 z e
    · rename_i hl
      have hmy : ordI m y < 0 := Int.not_le.1 fun k => hy (lt_tri (by omega) hl)
      refine List.pairwise_cons.2 ⟨fun z hz => ?_, List.pairwise_cons.2 h⟩
      rcases List.mem_cons.1 hz with e | e
      · rw [e]; exact hmy
      · exact lt_tr hmy (h.1 z e)
/-- insertion as the document does it -/
theorem ins_at {m : La.Mat} : ∀ {l : List La.Mat} {k : Nat}, k ≤ l.length → (∀ x ∈ l.take k, ordI x m < 0) → (∀ x, l[k]? = some x → ¬ ordI x m < 0) → ins m l = l.take k ++ [m] ++ l.drop k
  | [], k, _, _, _ => by simp [ins]
  | y :: r, 0, _, _, h => by
    unfold ins
    rw [if_neg (h y rfl)]
    simp
  | y :: r, k + 1, hk, h1, h2 => by
    unfold ins
    rw [if_pos (h1 y (by simp)), ins_at (l := r) (k := k) (by simpa using hk) (fun x hx => h1 x (by simp [hx])) (fun x hx => h2 x (by simpa using hx))]
    simp
theorem srt_ext : ∀ {l r : List La.Mat}, Srt l → Srt r → (∀ x, x ∈ l ↔ x ∈ r) → l = r
  | [], [], _, _, _ => rfl
  | [], y :: r, _, _, h => absurd ((h y).2 List.mem_cons_self) List.not_mem_nil
  | x :: l, [], _, _, h => absurd ((h x).1 List.mem_cons_self) List.not_mem_nil
  | x :: l, y :: r, hl, hr, h => by
    unfold Srt at hl hr
    rw [List.pairwise_cons] at hl hr
    have e : x = y := by
      rcases List.mem_cons.1 ((h x).1 List.mem_cons_self) with e | e
      · exact e
      · rcases List.mem_cons.1 ((h y).2 List.mem_cons_self) with k | k
        · exact k.symm
        · exact absurd (hl.1 y k) (lt_not (hr.1 x e))
    subst e
    rw [srt_ext hl.2 hr.2 fun z => ?_]
    have nl : x ∉ l := fun k => lt_irr x (hl.1 x k)
    have nr : x ∉ r := fun k => lt_irr x (hr.1 x k)
    constructor
    · intro hz
      rcases List.mem_cons.1 ((h z).1 (List.mem_cons_of_mem _ hz)) with k | k
      · rw [k] at hz; exact absurd hz nl
      · exact k
    · intro hz
      rcases List.mem_cons.1 ((h z).2 (List.mem_cons_of_mem _ hz)) with k | k
      · rw [k] at hz; exact absurd hz nr
      · exact k
/-- a list without duplicates whose later members are never before an earlier one is in order -/
theorem srt_of {l : List La.Mat} (hn : l.Nodup) (h : ∀ (i j : Nat) (x y : La.Mat), i < j → l[i]? = some x → l[j]? = some y → ¬ ordI y x < 0) : Srt l := by
  unfold Srt
  rw [List.pairwise_iff_getElem]
  intro i j hi hj hij
  have h1 := h i j l[i] l[j] hij (List.getElem?_eq_getElem hi) (List.getElem?_eq_getElem hj)
  refine Int.not_le.1 fun k => ?_
  have e := lt_tri (show ¬ ordI l[i] l[j] < 0 by omega) h1
  have := (List.pairwise_iff_getElem.1 hn) i j hi hj hij
  exact this e
end Go.Proofs.Ytmghpaibdgkbfaa
/-
  Plain law of the document's Steps: the steps of a length.
-/
namespace Go.Proofs.Ytmghpaibdgkbfaa
noncomputable def rt (n : Int) : Int := open Classical in if h : ∃ s : Int, 0 ≤ s ∧ s * s ≤ n ∧ n < (s + 1) * (s + 1) then Classical.choose h else 0
theorem rt_eq {n s : Int} (h0 : 0 ≤ s) (h1 : s * s ≤ n) (h2 : n < (s + 1) * (s + 1)) : rt n = s := by
  have h : ∃ s : Int, 0 ≤ s ∧ s * s ≤ n ∧ n < (s + 1) * (s + 1) := ⟨s, h0, h1, h2⟩
  unfold rt
  rw [dif_pos h]
  obtain ⟨k0, k1, k2⟩ := Classical.choose_spec h
  exact root_uniq k0 k1 k2 h0 h1 h2
theorem rt_sq {t : Int} (h : 0 ≤ t) : rt (t * t) = t := rt_eq h (Int.le_refl _) (by
  have : (t + 1) * (t + 1) = t * t + 2 * t + 1 := by grind
  omega)
namespace La
/-- what lies under the root -/
def dY (l : Lat) (n y : Int) : Int := l.a * n - ld l * y * y
/-- the steps (x, y) of length n whose y is given -/
noncomputable def stY (l : Lat) (n y : Int) : List (Int × Int) :=
  if dY l n y < 0 then [] else if rt (dY l n y) * rt (dY l n y) ≠ dY l n y then [] else
    (if (rt (dY l n y) - l.b * y).tmod l.a = 0 then [((rt (dY l n y) - l.b * y).tdiv l.a, y)] else []) ++
    (if 0 < rt (dY l n y) ∧ (rt (dY l n y) + l.b * y).tmod l.a = 0 then [((-(rt (dY l n y) + l.b * y)).tdiv l.a, y)] else [])
noncomputable def stl (l : Lat) (n : Int) (k : Nat) : List (Int × Int) := (List.range k).flatMap (fun i : Nat => stY l n ((i : Int) - 10000))
theorem stl_zero (l : Lat) (n : Int) : stl l n 0 = [] := rfl
theorem stl_succ (l : Lat) (n : Int) (k : Nat) : stl l n (k + 1) = stl l n k ++ stY l n ((k : Int) - 10000) := by
  unfold stl; rw [List.range_succ, List.flatMap_append]; simp
theorem stY_len (l : Lat) (n y : Int) : (stY l n y).length ≤ 2 := by
  unfold stY
  split
  · simp
  · split
    · simp
    · rw [List.length_append]; split <;> split <;> simp
theorem stl_len (l : Lat) (n : Int) : ∀ k, (stl l n k).length ≤ 2 * k
  | 0 => by simp [stl_zero]
  | k + 1 => by have := stl_len l n k; have := stY_len l n ((k : Int) - 10000); rw [stl_succ, List.length_append]; omega
theorem dvd_form {a u : Int} (h : u.tmod a = 0) : u = a * u.tdiv a := by
  have := Int.mul_tdiv_add_tmod u a
  omega
theorem prod_of {l : Lat} (ha : 1 ≤ l.a) {n x y : Int} (h : (l.a * x + l.b * y) * (l.a * x + l.b * y) = dY l n y) : prod l x y x y = n := by
  have e := a_prod l x y
  unfold dY at h
  rw [h] at e
  have e2 : l.a * (prod l x y x y - n) = 0 := by
    have : ld l * y * y = ld l * (y * y) := Int.mul_assoc ..
    rw [Int.mul_sub]; omega
  rcases Int.mul_eq_zero.1 e2 with h1 | h1 <;> omega
theorem stY_iff {l : Lat} (ha : 1 ≤ l.a) {n x y z : Int} : (x, z) ∈ stY l n y ↔ z = y ∧ prod l x y x y = n := by
  constructor
  · intro h
    unfold stY at h
    by_cases h1 : dY l n y < 0
    · rw [if_pos h1] at h; simp at h
    · rw [if_neg h1] at h
      by_cases h2 : rt (dY l n y) * rt (dY l n y) = dY l n y
      · rw [if_neg (by simp only [ne_eq, Decidable.not_not]; exact h2)] at h
        obtain ⟨s, hs⟩ : ∃ s, s = rt (dY l n y) := ⟨_, rfl⟩
        rw [← hs] at h h2
        rcases List.mem_append.1 h with h | h
        · by_cases h3 : (s - l.b * y).tmod l.a = 0
          · rw [if_pos h3] at h
            simp only [List.mem_singleton, Prod.mk.injEq] at h
            refine ⟨h.2, prod_of ha ?_⟩
            have e := dvd_form h3
            rw [← h.1] at e
            have : l.a * x + l.b * y = s := by omega
            rw [this]; exact h2
          · rw [if_neg h3] at h; simp at h
        · by_cases h3 : 0 < s ∧ (s + l.b * y).tmod l.a = 0
          · rw [if_pos h3] at h
            simp only [List.mem_singleton, Prod.mk.injEq] at h
            refine ⟨h.2, prod_of ha ?_⟩
            have e := dvd_form h3.2
            rw [Int.neg_tdiv] at h
            have h4 : (s + l.b * y).tdiv l.a = -x := by omega
            rw [h4, Int.mul_neg] at e
            have : l.a * x + l.b * y = -s := by omega
            rw [this, Int.neg_mul_neg]; exact h2
          · rw [if_neg h3] at h; simp at h
      · rw [if_pos h2] at h; simp at h
  · rintro ⟨rfl, hp⟩
    have e := a_prod l x z
    rw [hp] at e
    have hd : dY l n z = (l.a * x + l.b * z) * (l.a * x + l.b * z) := by
      unfold dY
      have : ld l * z * z = ld l * (z * z) := Int.mul_assoc ..
      omega
    have h0 := sq_nn (l.a * x + l.b * z)
    unfold stY
    rw [hd, if_neg (by omega)]
    rcases Int.lt_or_le (l.a * x + l.b * z) 0 with ht | ht
    · have hr : rt ((l.a * x + l.b * z) * (l.a * x + l.b * z)) = -(l.a * x + l.b * z) := by
        have := rt_sq (t := -(l.a * x + l.b * z)) (by omega)
        rwa [Int.neg_mul_neg] at this
      rw [hr, if_neg (by rw [Int.neg_mul_neg]; simp)]
      have e1 : -(l.a * x + l.b * z) + l.b * z = l.a * -x := by rw [Int.mul_neg]; omega
      have e2 : -(l.a * -x) = l.a * x := by rw [Int.mul_neg]; omega
      refine List.mem_append_right _ ?_
      rw [e1, if_pos ⟨by omega, Int.mul_tmod_right ..⟩, e2, Int.mul_tdiv_cancel_left _ (by omega)]
      exact List.mem_singleton.2 rfl
    · rw [rt_sq ht, if_neg (by simp)]
      have e1 : l.a * x + l.b * z - l.b * z = l.a * x := by omega
      refine List.mem_append_left _ ?_
      rw [e1, if_pos (Int.mul_tmod_right ..), Int.mul_tdiv_cancel_left _ (by omega)]
      exact List.mem_singleton.2 rfl
end La
end Go.Proofs.Ytmghpaibdgkbfaa
/-
  Plain law of the document's Steps: all steps of a length, each once.
-/
namespace Go.Proofs.Ytmghpaibdgkbfaa
namespace La
theorem mem_stl {l : Lat} (ha : 1 ≤ l.a) {n x z : Int} : ∀ {k : Nat}, (x, z) ∈ stl l n k ↔ (-10000 ≤ z ∧ z < (k : Int) - 10000) ∧ prod l x z x z = n
  | 0 => by
    rw [stl_zero]
    constructor
    · intro h; simp at h
    · rintro ⟨h, _⟩; omega
  | k + 1 => by
    rw [stl_succ, List.mem_append, mem_stl ha (k := k), stY_iff ha]
    constructor
    · rintro (⟨h1, h2⟩ | ⟨h1, h2⟩)
      · exact ⟨⟨h1.1, by omega⟩, h2⟩
      · subst h1; exact ⟨⟨by omega, by omega⟩, h2⟩
    · rintro ⟨h1, h2⟩
      rcases Int.lt_or_le z ((k : Int) - 10000) with h | h
      · exact .inl ⟨⟨h1.1, h⟩, h2⟩
      · have hz : z = (k : Int) - 10000 := by omega
        exact .inr ⟨hz, by rw [← hz]; exact h2⟩
theorem mem_steps {l : Lat} (v : Val l) (ha : l.a ≤ 10000) (hc : l.c ≤ 10000) {n x z : Int} (hn : n ≤ 10000) : (x, z) ∈ stl l n 20001 ↔ prod l x z x z = n := by
  rw [mem_stl v.a1]
  constructor
  · exact fun h => h.2
  · intro h
    obtain ⟨_, h1, h2⟩ := fit_of v ha hc (x := x) (y := z) (by omega)
    exact ⟨⟨h1, by omega⟩, h⟩
theorem stY_nodup (l : Lat) (n y : Int) : (stY l n y).Nodup := by
  unfold stY
  split
  · exact List.nodup_nil
  · split
    · exact List.nodup_nil
    · by_cases h1 : (rt (dY l n y) - l.b * y).tmod l.a = 0
      · rw [if_pos h1]
        by_cases h2 : 0 < rt (dY l n y) ∧ (rt (dY l n y) + l.b * y).tmod l.a = 0
        · rw [if_pos h2]
          have e1 := dvd_form h1
          have e2 := dvd_form h2.2
          rw [Int.neg_tdiv]
          simp only [List.cons_append, List.nil_append, List.nodup_cons, List.mem_singleton, Prod.mk.injEq, and_true, List.not_mem_nil, not_false_eq_true, List.nodup_nil]
          intro h
          rw [h, Int.mul_neg] at e1
          omega
        · rw [if_neg h2]; simp
      · rw [if_neg h1, List.nil_append]
        split <;> simp
theorem stl_nodup {l : Lat} (ha : 1 ≤ l.a) (n : Int) : ∀ k, (stl l n k).Nodup
  | 0 => by rw [stl_zero]; exact List.nodup_nil
  | k + 1 => by
    rw [stl_succ, List.nodup_append]
    refine ⟨stl_nodup ha n k, stY_nodup l n _, ?_⟩
    rintro ⟨x, z⟩ h1 ⟨x', z'⟩ h2 h3
    have g1 := (mem_stl ha).1 h1
    have g2 := (stY_iff ha).1 h2
    injection h3 with _ h4
    omega
end La
end Go.Proofs.Ytmghpaibdgkbfaa
/-
  Plain law of the document's Leading: all matrices that lead from a lattice to another, in order.
-/
namespace Go.Proofs.Ytmghpaibdgkbfaa
namespace La
/-- the matrix of two columns, where it leads -/
def ldOne (l tt : Lat) (p q : Int × Int) : List Mat :=
  if prod l p.1 p.2 q.1 q.2 = tt.b ∧ (p.1 * q.2 - p.2 * q.1 = 1 ∨ p.1 * q.2 - p.2 * q.1 = -1) then [⟨p.1, q.1, p.2, q.2⟩] else []
def ldEn (l tt : Lat) (ps qs : List (Int × Int)) : List Mat := ps.flatMap (fun p => qs.flatMap (ldOne l tt p))
def insAll (acc : List Mat) (en : List Mat) : List Mat := en.foldl (fun a m => ins m a) acc
noncomputable def ldg (l tt : Lat) : List Mat := insAll [] (ldEn l tt (stl l tt.a 20001) (stl l tt.c 20001))
theorem insAll_app (a x y : List Mat) : insAll a (x ++ y) = insAll (insAll a x) y := List.foldl_append ..
theorem mem_one {l tt : Lat} {p q : Int × Int} {m : Mat} : m ∈ ldOne l tt p q ↔ m = ⟨p.1, q.1, p.2, q.2⟩ ∧ prod l p.1 p.2 q.1 q.2 = tt.b ∧ unit ⟨p.1, q.1, p.2, q.2⟩ := by
  have e : p.1 * q.2 - p.2 * q.1 = det ⟨p.1, q.1, p.2, q.2⟩ := by unfold det; simp only; rw [Int.mul_comm p.2 q.1]
  unfold ldOne unit
  rw [e]
  split
  · rename_i h; rw [List.mem_singleton]; exact ⟨fun k => ⟨k, h⟩, fun k => k.1⟩
  · rename_i h; exact ⟨fun k => absurd k List.not_mem_nil, fun k => absurd k.2 h⟩
theorem mem_en {l tt : Lat} {ps qs : List (Int × Int)} {m : Mat} : m ∈ ldEn l tt ps qs ↔ (m.a, m.c) ∈ ps ∧ (m.b, m.d) ∈ qs ∧ prod l m.a m.c m.b m.d = tt.b ∧ unit m := by
  unfold ldEn
  simp only [List.mem_flatMap]
  constructor
  · rintro ⟨p, hp, q, hq, h⟩
    obtain ⟨rfl, h1, h2⟩ := mem_one.1 h
    exact ⟨hp, hq, h1, h2⟩
  · rintro ⟨hp, hq, h1, h2⟩
    exact ⟨_, hp, _, hq, mem_one.2 ⟨rfl, h1, h2⟩⟩
theorem en_nodup {l tt : Lat} {ps qs : List (Int × Int)} (hp : ps.Nodup) (hq : qs.Nodup) : (ldEn l tt ps qs).Nodup := by
  unfold ldEn
  refine List.pairwise_flatMap.2 ⟨fun p _ => List.pairwise_flatMap.2 ⟨fun q _ => ?_, ?_⟩, ?_⟩
  · unfold ldOne; split <;> simp
  · refine hq.imp ?_
    rintro q q' hne x hx y hy rfl
    have e1 := (mem_one.1 hx).1
    have e2 := (mem_one.1 hy).1
    rw [e1] at e2
    injection e2 with _ h1 _ h2
    exact hne (Prod.ext h1 h2)
  · refine hp.imp ?_
    rintro p p' hne x hx y hy rfl
    obtain ⟨q, _, hx⟩ := List.mem_flatMap.1 hx
    obtain ⟨q', _, hy⟩ := List.mem_flatMap.1 hy
    have e1 := (mem_one.1 hx).1
    have e2 := (mem_one.1 hy).1
    rw [e1] at e2
    injection e2 with h1 _ h2 _
    exact hne (Prod.ext h1 h2)
theorem insAll_srt : ∀ {en acc : List Mat}, Srt acc → en.Nodup → (∀ x ∈ en, x ∉ acc) → Srt (insAll acc en) ∧ ∀ x, x ∈ insAll acc en ↔ x ∈ acc ∨ x ∈ en
  | [], acc, h, _, _ => ⟨h, fun x => by show x ∈ acc ↔ _; simp⟩
  | m :: en, acc, h, hn, hd => by
    rw [List.nodup_cons] at hn
    have h1 : Srt (ins m acc) := srt_ins h (hd m List.mem_cons_self)
    obtain ⟨g1, g2⟩ := insAll_srt (en := en) (acc := ins m acc) h1 hn.2 (fun x hx k => by
      rcases mem_ins.1 k with e | e
      · rw [e] at hx; exact hn.1 hx
      · exact hd x (List.mem_cons_of_mem _ hx) e)
    refine ⟨g1, fun x => (g2 x).trans ?_⟩
    rw [mem_ins, List.mem_cons]
    constructor
    · rintro ((h | h) | h)
      · exact .inr (.inl h)
      · exact .inl h
      · exact .inr (.inr h)
    · rintro (h | h | h)
      · exact .inl (.inr h)
      · exact .inl (.inl h)
      · exact .inr h
theorem ldg_srt {l : Lat} (v : Val l) (tt : Lat) : Srt (ldg l tt) :=
  (insAll_srt List.Pairwise.nil (en_nodup (stl_nodup v.a1 _ _) (stl_nodup v.a1 _ _)) (fun _ _ => List.not_mem_nil)).1
theorem mem_ldg {l tt : Lat} (v : Val l) (ha : l.a ≤ 10000) (hc : l.c ≤ 10000) (ta : tt.a ≤ 10000) (tc : tt.c ≤ 10000) {m : Mat} : m ∈ ldg l tt ↔ lead l m = tt ∧ unit m := by
  have h := (insAll_srt (acc := []) List.Pairwise.nil (en_nodup (l := l) (tt := tt) (stl_nodup v.a1 tt.a 20001) (stl_nodup v.a1 tt.c 20001)) (fun _ _ => List.not_mem_nil)).2 m
  unfold ldg
  rw [h, mem_en, mem_steps v ha hc ta, mem_steps v ha hc tc]
  constructor
  · rintro (h | ⟨h1, h2, h3, h4⟩)
    · exact absurd h List.not_mem_nil
    · refine ⟨?_, h4⟩
      unfold lead
      rw [h1, h2, h3]
  · rintro ⟨h1, h2⟩
    refine .inr ⟨?_, ?_, ?_, h2⟩
    · rw [← h1]; rfl
    · rw [← h1]; rfl
    · rw [← h1]; rfl
end La
end Go.Proofs.Ytmghpaibdgkbfaa
/-
  Contracts of chapter 6: slices.SortFunc at matrices: the library's own contract, laid at this program's numbers by the kit's tool.
-/
namespace Go.Proofs.Ytmghpaibdgkbfaa
open Go.RowKit Go.Shelf
def sortMat_ren : Go.Shelf.Ren := ⟨fun | 6 => 71 | 15 => 92 | 14 => 91 | 28 => 103 | 29 => 104 | 20 => 95 | 21 => 96 | 22 => 97 | 23 => 98 | 24 => 99 | 25 => 100 | 26 => 101 | 27 => 102 | 46 => 105 | 47 => 106 | 48 => 107 | 49 => 108 | 50 => 109 | 57 => 110 | n => n, fun | 22 => 51 | 24 => 40 | 25 => 96 | 3 => 3 | 39 => 115 | 0 => 0 | 53 => 127 | 55 => 129 | 4 => 4 | 46 => 120 | 45 => 119 | 50 => 124 | 5 => 5 | 9 => 9 | 66 => 130 | 70 => 134 | 76 => 136 | 77 => 137 | n => n, fun | n => n⟩
theorem sortMat : Go.Proofs.SlLaysF0.n6 Try.prog sortMat_ren := {
  mixed := by kernel_rfl
  f6 := ⟨Try.f71.name, by decide, Try.func71.trans (congrArg some (by kernel_rfl))⟩
  f14 := ⟨Try.f91.name, by decide, Try.func91.trans (congrArg some (by kernel_rfl))⟩
  f15 := Try.func92.trans (congrArg some (by kernel_rfl))
  f20 := ⟨Try.f95.name, by decide, Try.func95.trans (congrArg some (by kernel_rfl))⟩
  f21 := ⟨Try.f96.name, by decide, Try.func96.trans (congrArg some (by kernel_rfl))⟩
  f22 := ⟨Try.f97.name, by decide, Try.func97.trans (congrArg some (by kernel_rfl))⟩
  f23 := ⟨Try.f98.name, by decide, Try.func98.trans (congrArg some (by kernel_rfl))⟩
  f24 := ⟨Try.f99.name, by decide, Try.func99.trans (congrArg some (by kernel_rfl))⟩
  f25 := ⟨Try.f100.name, by decide, Try.func100.trans (congrArg some (by kernel_rfl))⟩
  f26 := ⟨Try.f101.name, by decide, Try.func101.trans (congrArg some (by kernel_rfl))⟩
  f27 := ⟨Try.f102.name, by decide, Try.func102.trans (congrArg some (by kernel_rfl))⟩
  f28 := Try.func103.trans (congrArg some (by kernel_rfl))
  f29 := Try.func104.trans (congrArg some (by kernel_rfl))
  f46 := ⟨Try.f105.name, by decide, Try.func105.trans (congrArg some (by kernel_rfl))⟩
  f47 := Try.func106.trans (congrArg some (by kernel_rfl))
  f48 := Try.func107.trans (congrArg some (by kernel_rfl))
  f49 := ⟨Try.f108.name, by decide, Try.func108.trans (congrArg some (by kernel_rfl))⟩
  f50 := ⟨Try.f109.name, by decide, Try.func109.trans (congrArg some (by kernel_rfl))⟩
  f57 := ⟨Try.f110.name, by decide, Try.func110.trans (congrArg some (by kernel_rfl))⟩
  t0 := Try.underlying0
  a0 := Try.isAgg0
  z0 := Try.sizeOf0
  v0 := Try.zeroValue0
  t3 := Try.underlying3
  a3 := Try.isAgg3
  z3 := Try.sizeOf3
  v3 := Try.zeroValue3
  t4 := Try.underlying4
  a4 := Try.isAgg4
  z4 := Try.sizeOf4
  v4 := Try.zeroValue4
  t5 := Try.underlying5
  a5 := Try.isAgg5
  z5 := Try.sizeOf5
  v5 := Try.zeroValue5
  t9 := Try.underlying9
  a9 := Try.isAgg9
  z9 := Try.sizeOf9
  v9 := Try.zeroValue9
  t22 := Try.underlying51
  a22 := Try.isAgg51
  z22 := Try.sizeOf51
  v22 := Try.zeroValue51
  t25 := Try.underlying96
  a25 := Try.isAgg96
  z25 := Try.sizeOf96
  v25 := Try.zeroValue96
  t39 := Try.underlying115
  a39 := Try.isAgg115
  z39 := Try.sizeOf115
  v39 := Try.zeroValue115
  t45 := Try.underlying119
  a45 := Try.isAgg119
  z45 := Try.sizeOf119
  v45 := Try.zeroValue119
  t46 := Try.underlying120
  a46 := Try.isAgg120
  z46 := Try.sizeOf120
  v46 := Try.zeroValue120
  t50 := Try.underlying124
  a50 := Try.isAgg124
  z50 := Try.sizeOf124
  v50 := Try.zeroValue124
  t53 := Try.underlying127
  a53 := Try.isAgg127
  z53 := Try.sizeOf127
  v53 := Try.zeroValue127
  t55 := Try.underlying129
  a55 := Try.isAgg129
  z55 := Try.sizeOf129
  v55 := Try.zeroValue129
  t66 := Try.underlying130
  a66 := Try.isAgg130
  z66 := Try.sizeOf130
  v66 := Try.zeroValue130
  t70 := Try.underlying134
  a70 := Try.isAgg134
  z70 := Try.sizeOf134
  v70 := Try.zeroValue134
  t76 := Try.underlying136
  a76 := Try.isAgg136
  z76 := Try.sizeOf136
  v76 := Try.zeroValue136
  t77 := Try.underlying137
  a77 := Try.isAgg137
  z77 := Try.sizeOf137
  v77 := Try.zeroValue137 }

instance : Inhabited La.Mat := ⟨La.one⟩
theorem cmpI_neg (a b : Int) : cmpI a b < 0 ↔ a < b := by unfold cmpI; split <;> (try split) <;> omega
theorem cmpI_zero2 (a b : Int) : cmpI a b = 0 ↔ a = b := by unfold cmpI; split <;> (try split) <;> omega
theorem ordI_neg (m n : La.Mat) : ordI m n < 0 ↔ m.a < n.a ∨ (m.a = n.a ∧ (m.b < n.b ∨ (m.b = n.b ∧ (m.c < n.c ∨ (m.c = n.c ∧ m.d < n.d))))) := by
  unfold ordI orL orL orL orL orL
  have h1 := cmpI_neg m.a n.a
  have h2 := cmpI_neg m.b n.b
  have h3 := cmpI_neg m.c n.c
  have h4 := cmpI_neg m.d n.d
  have z1 := cmpI_zero2 m.a n.a
  have z2 := cmpI_zero2 m.b n.b
  have z3 := cmpI_zero2 m.c n.c
  generalize cmpI m.a n.a = x1 at *
  generalize cmpI m.b n.b = x2 at *
  generalize cmpI m.c n.c = x3 at *
  generalize cmpI m.d n.d = x4 at *
  by_cases k1 : x1 = 0
  · by_cases k2 : x2 = 0
    · by_cases k3 : x3 = 0
      · by_cases k4 : x4 = 0 <;> simp [k1, k2, k3, k4] <;> omega
      · simp [k1, k2, k3] <;> omega
    · simp [k1, k2] <;> omega
  · simp [k1] <;> omega
theorem swoMat : Go.Sort.SWO (ltOf ordI) where
  irrefl x := by unfold ltOf; simp only [decide_eq_false_iff_not]; rw [ordI_neg]; omega
  trans x y z h1 h2 := by unfold ltOf at *; simp only [decide_eq_true_eq] at *; rw [ordI_neg] at *; omega
  ntrans x y z h1 h2 := by unfold ltOf at *; simp only [decide_eq_false_iff_not] at *; rw [ordI_neg] at *; omega
end Go.Proofs.Ytmghpaibdgkbfaa
/-
  Contracts of chapter 6: slices.SortFunc at matrices, in words of this proof.
-/
namespace Go.Proofs.Ytmghpaibdgkbfaa
open Go.RowKit Go.Shelf
theorem holds_mat {w : World} {g : Nat} {l : List La.Mat} {T : List Value} (hh : Has w g 40 (msC l ++ T)) : Go.Sort.HoldsK mC 4 w g 0 l.toArray := fun j hj => by
  have hj2 : j < l.length * 4 := by simpa using hj
  have hlt : j / 4 < l.length := by omega
  obtain ⟨x, hx⟩ := get_of_lt hlt
  have h1 := msC_get hx T (j % 4) (by omega)
  refine ⟨?_, hh.free _⟩
  rw [hh.cell, Nat.zero_add, show j = j / 4 * 4 + j % 4 by omega, h1, ← show j = j / 4 * 4 + j % 4 by omega]
  show _ = some (Go.Sort.flatK mC 4 l.toArray)[j]!
  rw [Go.Sort.get_flatK mC 4 l.toArray j (by simpa using hj2)]
  have h2 : l.toArray[j / 4]! = x := by
    rw [getElem!_pos l.toArray _ (by simpa using hlt)]
    rw [List.getElem?_eq_getElem hlt] at hx
    simpa using hx
  rw [h2]
  have h3 : j % 4 < (mC x).length := by rw [mC_len]; omega
  rw [getElem!_pos (mC x) _ h3, List.getElem?_eq_getElem h3]
theorem rd_holds {w : World} {g : Nat} {d : Array La.Mat} (hb : g < w.heap.size) (h : Go.Sort.HoldsK mC 4 w g 0 d) : RdM4 w w.heap.size (some ⟨g, 0, none⟩) d.toList := fun k m hk => by
  have hlt : k < d.size := by have := lt_of_get hk; simpa using this
  have hm : d[k]! = m := by
    rw [getElem!_pos d _ hlt]
    rw [Array.getElem?_toList, Array.getElem?_eq_getElem hlt] at hk
    exact Option.some.inj hk
  have c : ∀ j, j < 4 → w.cell? ⟨g, 0 + k * 4 + j, none⟩ = some ((mC m)[j]!) := fun j hj => by
    have hh := (h (k * 4 + j) (by simp; omega)).1
    rw [← Nat.add_assoc] at hh
    rw [hh]
    show some (Go.Sort.flatK mC 4 d)[k * 4 + j]! = _
    rw [Go.Sort.get_flatK mC 4 d _ (by omega), show (k * 4 + j) / 4 = k by omega, show (k * 4 + j) % 4 = j by omega, hm]
  exact ⟨g, 0, rfl, hb, c 0 (by decide), c 1 (by decide), c 2 (by decide), c 3 (by decide)⟩
theorem but_put {w : World} {g n : Nat} {d : Array La.Mat} {os : Array Obj} : But g w (sortWorldK mC 4 w g 0 n d os) := by
  refine ⟨rfl, rfl, rfl, ?_, fun k hk hne => ?_⟩
  · show w.heap.size ≤ ((Go.Sort.putRowK mC 4 (Go.Sort.ahead w n) g 0 d).heap ++ os).size
    rw [Array.size_append]
    have : (Go.Sort.putRowK mC 4 (Go.Sort.ahead w n) g 0 d).heap.size = w.heap.size := by unfold Go.Sort.putRowK; rw [Go.Sort.size_putRow]; rfl
    omega
  · show ((Go.Sort.putRowK mC 4 (Go.Sort.ahead w n) g 0 d).heap ++ os)[k]? = _
    have hs : (Go.Sort.putRowK mC 4 (Go.Sort.ahead w n) g 0 d).heap.size = w.heap.size := by unfold Go.Sort.putRowK; rw [Go.Sort.size_putRow]; rfl
    rw [Array.getElem?_append_left (by omega)]
    show (w.heap.modify g _)[k]? = _
    rw [Array.getElem?_modify, if_neg (fun e => hne (by rw [e]))]
set_option maxHeartbeats 1000000 in
theorem sortMatC (g n cp : Nat) (l : List La.Mat) (T : List Value) (w : World) (hh : Has w g 40 (msC l ++ T)) (hl : l.length = n) (hn : n ≤ 1000) :
    Calls Try.prog 71 #[.slice (some ⟨g, 0, none⟩) n cp, .func (.func 67) #[] #[]] w fun e w' => e = .returned (.tuple #[]) ∧ (∃ l' : List La.Mat, l'.Perm l ∧ (∀ (i j : Nat) (x y : La.Mat), i < j → l'[i]? = some x → l'[j]? = some y → ¬ ordI y x < 0) ∧ RdM4 w' w'.heap.size (some ⟨g, 0, none⟩) l') ∧ But g w w' := by
  have eg : ∀ args w, (callFunc 67 args).run Try.prog w = .ok (.enter 67 args) w := enters_of Try.func67 (by kernel_rfl) rfl
  have hH := holds_mat hh
  have hsz : l.toArray.size = n := by simpa using hl
  have hcon := AnyQ.slices_SortFunc sortMat 4 Try.isAgg40 Try.sizeOf40 mC (fun _ => rfl) (fun x v hv => one_mat x v hv) ordI swoMat 67 #[] g 0 cp l.toArray w eg (fun m os dk _ x y => orderMS x y _) hH hh.lt (by omega)
  rw [hsz] at hcon
  refine hcon.mono ?_
  rintro e w' ⟨he, d', m, os, hp, hs, rfl⟩
  obtain ⟨h1, _, h3⟩ := hp
  have hds : d'.size = n := by rw [h1, hsz]
  have hlt : g < (sortWorldK mC 4 w g 0 m d' os).heap.size := Nat.lt_of_lt_of_le hh.lt but_put.size
  refine ⟨he, ⟨d'.toList, ?_, fun i j x y hij hi hj => ?_, rd_holds hlt ?_⟩, but_put⟩
  · have e1 : d'.extract 0 n = d' := by rw [← hds, Array.extract_size]
    have e2 : l.toArray.extract 0 n = l.toArray := by rw [← hsz, Array.extract_size]
    rw [e1, e2] at h3
    exact h3
  · have hj2 := lt_of_get hj
    have hi2 := lt_of_get hi
    rw [Array.length_toList, hds] at hj2
    have := hs i j (Nat.zero_le _) hij hj2
    rw [getElem!_pos d' _ (by omega), getElem!_pos d' _ (by omega)] at this
    rw [Array.getElem?_toList, Array.getElem?_eq_getElem (by omega)] at hi hj
    rw [Option.some.inj hi, Option.some.inj hj] at this
    simpa [ltOf] using this
  · exact Go.Sort.holdsK_grow _ _ _ os g 0 d' (by unfold Go.Sort.putRowK; rw [Go.Sort.size_putRow]; exact hh.lt) (Go.Sort.holdsK_putRowK _ _ _ g 0 l.toArray d' hH h1)
end Go.Proofs.Ytmghpaibdgkbfaa
