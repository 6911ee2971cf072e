/-
  Contract of chapter 6: the document's Reduce (from Leading's contract, LeadOK).
-/
import Derived.Test.YtmghpaibdgkbfaaVB5
import Derived.Test.YtmghpaibdgkbfaaVB13
import Derived.Test.YtmghpaibdgkbfaaVB14
import Derived.Test.YtmghpaibdgkbfaaVB15
import Derived.Test.YtmghpaibdgkbfaaVB16
import Derived.Deep.CutRange
import Derived.Deep.RegionHeld3
namespace Go.Proofs.Ytmghpaibdgkbfaa
open Go.RowKit
set_option maxRecDepth 100000 in
set_option maxHeartbeats 4000000 in
theorem rreduceTC (a b c : Int) (w : World) (h : okL a b c = true) : Calls Try.prog 25 #[vL a b c] w fun e w' => (∃ (l : La.Lat) (m : La.Mat), La.St ⟨a, b, c⟩ l m ∧ La.Red l ∧ e = .returned (.tuple #[vL l.a l.b l.c, vM (redM l m).a (redM l m).b (redM l m).c (redM l m).d, .int .i64 0])) ∧ Below w.heap.size w w' := by
  have CC := Lib.hid (fun W => rcheckC a b c W)
  rw [show errL a b c = 0 from if_pos h] at CC
  have CR := Lib.hid (fun W => reducedC a b c W h)
  have HV := Lib.hid (okL_val h)
  have CD := Lib.hid (fun p q r W h1 h3 hf => leadingO a b c p q r W h h1 h3 hf)
  clear h
  have G0 : Hid (Has (boxW w [([.int .i64 a, .int .i64 b, .int .i64 c], 23), ([.int .i64 0, .int .i64 0, .int .i64 0], 23), ([.int .i64 0, .int .i64 0, .int .i64 0, .int .i64 0], 40)]) (w.heap.size) 23 [.int .i64 a, .int .i64 b, .int .i64 c]) := box_has [([.int .i64 a, .int .i64 b, .int .i64 c], 23), ([.int .i64 0, .int .i64 0, .int .i64 0], 23), ([.int .i64 0, .int .i64 0, .int .i64 0, .int .i64 0], 40)] (w := w) (Below.refl _ _) (i := 0) rfl
  have G1 : Hid (Has (boxW w [([.int .i64 a, .int .i64 b, .int .i64 c], 23), ([.int .i64 0, .int .i64 0, .int .i64 0], 23), ([.int .i64 0, .int .i64 0, .int .i64 0, .int .i64 0], 40)]) (w.heap.size + 1) 23 [.int .i64 0, .int .i64 0, .int .i64 0]) := box_has [([.int .i64 a, .int .i64 b, .int .i64 c], 23), ([.int .i64 0, .int .i64 0, .int .i64 0], 23), ([.int .i64 0, .int .i64 0, .int .i64 0, .int .i64 0], 40)] (w := w) (Below.refl _ _) (i := 1) rfl
  have G2 : Hid (Has (boxW w [([.int .i64 a, .int .i64 b, .int .i64 c], 23), ([.int .i64 0, .int .i64 0, .int .i64 0], 23), ([.int .i64 0, .int .i64 0, .int .i64 0, .int .i64 0], 40)]) (w.heap.size + 1 + 1) 40 [.int .i64 0, .int .i64 0, .int .i64 0, .int .i64 0]) := box_has [([.int .i64 a, .int .i64 b, .int .i64 c], 23), ([.int .i64 0, .int .i64 0, .int .i64 0], 23), ([.int .i64 0, .int .i64 0, .int .i64 0, .int .i64 0], 40)] (w := w) (Below.refl _ _) (i := 2) rfl
  have B := Lib.hid (boxW_below [([.int .i64 a, .int .i64 b, .int .i64 c], 23), ([.int .i64 0, .int .i64 0, .int .i64 0], 23), ([.int .i64 0, .int .i64 0, .int .i64 0, .int .i64 0], 40)] w)
  obtain ⟨W1, hW1⟩ : ∃ W1, W1 = boxW w [([.int .i64 a, .int .i64 b, .int .i64 c], 23), ([.int .i64 0, .int .i64 0, .int .i64 0], 23), ([.int .i64 0, .int .i64 0, .int .i64 0, .int .i64 0], 40)] := ⟨_, rfl⟩
  rw [← hW1] at G0 G1 G2 B
  go_enter Try.func25, Try.ntmps25
  go_upto_region 1 with (fail)
  rw [show ((w.alloc (.cells #[.int .i64 a, .int .i64 b, .int .i64 c] 23)).alloc (.cells #[.int .i64 0, .int .i64 0, .int .i64 0] 23)).alloc (.cells #[.int .i64 0, .int .i64 0, .int .i64 0, .int .i64 0] 40) = W1 from hW1.symm]
  clear hW1
  have cG00 : W1.cell? ⟨w.heap.size, 0, none⟩ = some (.int .i64 a) := G0.out.cell 0
  have cG01 : W1.cell? ⟨w.heap.size, 1, none⟩ = some (.int .i64 b) := G0.out.cell 1
  have cG02 : W1.cell? ⟨w.heap.size, 2, none⟩ = some (.int .i64 c) := G0.out.cell 2
  go_wp2_with fail
  refine (CC.out _).mono ?_
  rintro e w1 ⟨rfl, hb1⟩
  clear cG00 cG01 cG02
  replace G0 := Lib.hid (G0.out.below hb1 G0.out.lt)
  replace G1 := Lib.hid (G1.out.below hb1 G1.out.lt)
  replace G2 := Lib.hid (G2.out.below hb1 G2.out.lt)
  replace B := Lib.hid (bvia B.out hb1)
  clear hb1
  have cG00 : w1.cell? ⟨w.heap.size, 0, none⟩ = some (.int .i64 a) := G0.out.cell 0
  have cG01 : w1.cell? ⟨w.heap.size, 1, none⟩ = some (.int .i64 b) := G0.out.cell 1
  have cG02 : w1.cell? ⟨w.heap.size, 2, none⟩ = some (.int .i64 c) := G0.out.cell 2
  go_wp2_with fail
  refine (CR.out _).mono ?_
  rintro e w2 ⟨⟨l, m, ST, RD, rfl⟩, hb2⟩
  clear cG00 cG01 cG02
  replace G0 := Lib.hid (G0.out.below hb2 G0.out.lt)
  replace G1 := Lib.hid (G1.out.below hb2 G1.out.lt)
  replace G2 := Lib.hid (G2.out.below hb2 G2.out.lt)
  replace B := Lib.hid (bvia B.out hb2)
  clear hb2
  have HST := Lib.hid ST
  have HRD := Lib.hid RD
  have hla : 1 ≤ l.a := ST.v.a1
  have hlc : 1 ≤ l.c := ST.v.c1
  have CL := Lib.hid (fun W => CD.out l.a l.b l.c W ⟨hla, ST.ba⟩ ⟨hlc, ST.bc⟩ (few_red ST RD))
  have HF := Lib.hid (red_ldg HV.out.1 HV.out.2.1 HV.out.2.2 ST RD)
  obtain ⟨x, hx⟩ : ∃ x, x = redM l m := ⟨_, rfl⟩
  rw [← hx] at HF
  have HX := Lib.hid hx
  clear hx ST RD hla hlc CD
  have lG0GP : w.heap.size < w2.heap.size := G0.out.lt
  have lG1GP : w.heap.size + 1 < w2.heap.size := G1.out.lt
  have lG2GP : w.heap.size + 1 + 1 < w2.heap.size := G2.out.lt
  go_upto_region 4 with (fail)
  have D1 := Lib.hid ((Below.refl w2.heap.size w2).alloc (Nat.le_refl _) (.cells #[.int .i64 l.a, .int .i64 l.b, .int .i64 l.c] 23))
  have GP : Hid (Has (w2.alloc (.cells #[.int .i64 l.a, .int .i64 l.b, .int .i64 l.c] 23)) w2.heap.size 23 [.int .i64 l.a, .int .i64 l.b, .int .i64 l.c]) := Has.new rfl
  replace G0 := Lib.hid (G0.out.below D1.out G0.out.lt)
  replace G1 := Lib.hid (G1.out.below D1.out G1.out.lt)
  replace G2 := Lib.hid (G2.out.below D1.out G2.out.lt)
  replace B := Lib.hid (bvia B.out D1.out)
  clear D1
  generalize w2.alloc (.cells #[.int .i64 l.a, .int .i64 l.b, .int .i64 l.c] 23) = V3 at *
  generalize w2.heap.size = KGP at *
  have hKP : w.heap.size + 1 + 1 < KGP := lG2GP
  have HB := B
  have z0 := (Below.refl V3.heap.size V3).drew
  have e0 : V3.drew.cell? ⟨w.heap.size, 0, none⟩ = some (.int .i64 a) := G0.out.cell 0
  have e1 : V3.drew.cell? ⟨w.heap.size, 1, none⟩ = some (.int .i64 b) := G0.out.cell 1
  have e2 : V3.drew.cell? ⟨w.heap.size, 2, none⟩ = some (.int .i64 c) := G0.out.cell 2
  have p0 : V3.drew.cell? ⟨KGP, 0, none⟩ = some (.int .i64 l.a) := GP.out.cell 0
  have p1 : V3.drew.cell? ⟨KGP, 1, none⟩ = some (.int .i64 l.b) := GP.out.cell 1
  have p2 : V3.drew.cell? ⟨KGP, 2, none⟩ = some (.int .i64 l.c) := GP.out.cell 2
  have ne1 : KGP ≠ w.heap.size + 1 := by omega
  have ne2 : KGP ≠ w.heap.size + 1 + 1 := by omega
  have ne3 : ¬ w.heap.size + 1 = KGP := by omega
  have ne4 : ¬ w.heap.size + 1 + 1 = KGP := by omega
  go_region_with (first
    | (go_at_call 69; refine (CL.out _).mono ?_; rintro e w4 ⟨⟨A, cp, rfl, hr4⟩, hb4⟩; have z4 := bvia z0 hb4; have hl4 := List.length_pos_of_mem (List.mem_of_getElem? HF.out); obtain ⟨gb, T4, rfl, hgb, hg4, hcp⟩ := own_has hr4 hl4; have v0 : w4.cell? ⟨gb, 0, none⟩ = some (.int .i64 x.a) := (hg4.cell 0).trans (msC_get HF.out T4 0 (by omega)); have v1 : w4.cell? ⟨gb, 1, none⟩ = some (.int .i64 x.b) := (hg4.cell 1).trans (msC_get HF.out T4 1 (by omega)); have v2 : w4.cell? ⟨gb, 2, none⟩ = some (.int .i64 x.c) := (hg4.cell 2).trans (msC_get HF.out T4 2 (by omega)); have v3 : w4.cell? ⟨gb, 3, none⟩ = some (.int .i64 x.d) := (hg4.cell 3).trans (msC_get HF.out T4 3 (by omega)); have hs3 : V3.drew.heap.size = V3.heap.size := rfl; have hl2 := G2.out.lt; have nb1 : gb ≠ w.heap.size + 1 := (by omega); have nb2 : ¬ w.heap.size + 1 = gb := (by omega); have nb3 : gb ≠ w.heap.size + 1 + 1 := (by omega); have nb4 : ¬ w.heap.size + 1 + 1 = gb := (by omega); clear hgb hs3 hl2; have H1 := G1.out.below z4 G1.out.lt; have H2 := G2.out.below z4 G2.out.lt; have HP := GP.out.below z4 GP.out.lt; have s0 := HP.cell 0; have s1 := HP.cell 1; have s2 := HP.cell 2; have t0 := H1.cell 0; have t1 := H1.cell 1; have t2 := H1.cell 2; have f0 := H1.free 0; have f1 := H1.free 1; have f2 := H1.free 2; have u0 := H2.cell 0; have u1 := H2.cell 1; have u2 := H2.cell 2; have u3 := H2.cell 3; have g0 := H2.free 0; have g1 := H2.free 1; have g2 := H2.free 2; have g3 := H2.free 3; have qn := H2.lt)
    | fail)
  all_goals
    have K1 := (((((((H1.set 0 (.int .i64 l.a)).set 1 (.int .i64 l.b)).set 2 (.int .i64 l.c)).far (b := w.heap.size + 1 + 1) (by omega) 0 (.int .i64 x.a)).far (b := w.heap.size + 1 + 1) (by omega) 1 (.int .i64 x.b)).far (b := w.heap.size + 1 + 1) (by omega) 2 (.int .i64 x.c)).far (b := w.heap.size + 1 + 1) (by omega) 3 (.int .i64 x.d))
    have K2 := (((((((H2.far (b := w.heap.size + 1) (by omega) 0 (.int .i64 l.a)).far (b := w.heap.size + 1) (by omega) 1 (.int .i64 l.b)).far (b := w.heap.size + 1) (by omega) 2 (.int .i64 l.c)).set 0 (.int .i64 x.a)).set 1 (.int .i64 x.b)).set 2 (.int .i64 x.c)).set 3 (.int .i64 x.d))
    have KB := ((((((((bvia B.out z4).setCell (p := ⟨w.heap.size + 1, 0, none⟩) (Nat.le_add_right w.heap.size 1) (.int .i64 l.a)).setCell (p := ⟨w.heap.size + 1, 1, none⟩) (Nat.le_add_right w.heap.size 1) (.int .i64 l.b)).setCell (p := ⟨w.heap.size + 1, 2, none⟩) (Nat.le_add_right w.heap.size 1) (.int .i64 l.c)).setCell (p := ⟨w.heap.size + 1 + 1, 0, none⟩) (Nat.le_add_right w.heap.size 2) (.int .i64 x.a)).setCell (p := ⟨w.heap.size + 1 + 1, 1, none⟩) (Nat.le_add_right w.heap.size 2) (.int .i64 x.b)).setCell (p := ⟨w.heap.size + 1 + 1, 2, none⟩) (Nat.le_add_right w.heap.size 2) (.int .i64 x.c)).setCell (p := ⟨w.heap.size + 1 + 1, 3, none⟩) (Nat.le_add_right w.heap.size 2) (.int .i64 x.d))
    clear v0 v1 v2 v3 t0 t1 t2 f0 f1 f2 u0 u1 u2 u3 g0 g1 g2 g3 s0 s1 s2 nb1 nb2 nb3 nb4 ne1 ne2 ne3 ne4
    go_wp2
    refine post_cell2_tmp K1 K2 Try.results25 rfl rfl rfl rfl Try.underlying23 (by kernel_rfl) Try.underlying40 (by kernel_rfl) ⟨⟨l, m, HST.out, HRD.out, ?_⟩, KB⟩
    rw [← HX.out]
    rfl
theorem rredOK : RRedOK := ⟨rreduceTC, rreduceNC⟩
end Go.Proofs.Ytmghpaibdgkbfaa
/-
  The law GridsGroups (from Leading's contract, LeadOK).
-/
namespace Go.Proofs.Ytmghpaibdgkbfaa
open Go.RowKit
set_option maxRecDepth 100000 in
set_option maxHeartbeats 1000000 in
theorem keepsFC (a b c p q r s : Int) (w : World) (h : okL a b c = false) : Calls Try.prog 32 #[vL a b c, vM p q r s] w fun e w' => e = .returned (.tuple #[.bool false, .int .i64 2]) ∧ Below w.heap.size w w' := by
  have CC := Lib.hid (fun W => checkC a b c W)
  rw [show errL a b c = 2 from if_neg (by rw [h]; decide)] at CC
  clear h
  have G0 : Hid (Has (boxW w [([.int .i64 a, .int .i64 b, .int .i64 c], 23), ([.int .i64 p, .int .i64 q, .int .i64 r, .int .i64 s], 40)]) (w.heap.size) 23 [.int .i64 a, .int .i64 b, .int .i64 c]) := box_has [([.int .i64 a, .int .i64 b, .int .i64 c], 23), ([.int .i64 p, .int .i64 q, .int .i64 r, .int .i64 s], 40)] (w := w) (Below.refl _ _) (i := 0) rfl
  have G1 : Hid (Has (boxW w [([.int .i64 a, .int .i64 b, .int .i64 c], 23), ([.int .i64 p, .int .i64 q, .int .i64 r, .int .i64 s], 40)]) (w.heap.size + 1) 40 [.int .i64 p, .int .i64 q, .int .i64 r, .int .i64 s]) := box_has [([.int .i64 a, .int .i64 b, .int .i64 c], 23), ([.int .i64 p, .int .i64 q, .int .i64 r, .int .i64 s], 40)] (w := w) (Below.refl _ _) (i := 1) rfl
  have B := Lib.hid (boxW_below [([.int .i64 a, .int .i64 b, .int .i64 c], 23), ([.int .i64 p, .int .i64 q, .int .i64 r, .int .i64 s], 40)] w)
  obtain ⟨W1, hW1⟩ : ∃ W1, W1 = boxW w [([.int .i64 a, .int .i64 b, .int .i64 c], 23), ([.int .i64 p, .int .i64 q, .int .i64 r, .int .i64 s], 40)] := ⟨_, rfl⟩
  rw [← hW1] at G0 G1 B
  go_enter Try.func32, Try.ntmps32
  go_upto_region 1 with (fail)
  rw [show (w.alloc (.cells #[.int .i64 a, .int .i64 b, .int .i64 c] 23)).alloc (.cells #[.int .i64 p, .int .i64 q, .int .i64 r, .int .i64 s] 40) = W1 from hW1.symm]
  clear hW1
  have cG00 : W1.cell? ⟨w.heap.size, 0, none⟩ = some (.int .i64 a) := G0.out.cell 0
  have cG01 : W1.cell? ⟨w.heap.size, 1, none⟩ = some (.int .i64 b) := G0.out.cell 1
  have cG02 : W1.cell? ⟨w.heap.size, 2, none⟩ = some (.int .i64 c) := G0.out.cell 2
  go_wp2_with fail
  refine (CC.out _).mono ?_
  rintro e w1 ⟨rfl, hb1⟩
  clear cG00 cG01 cG02
  replace G0 := Lib.hid (G0.out.below hb1 G0.out.lt)
  replace G1 := Lib.hid (G1.out.below hb1 G1.out.lt)
  replace B := Lib.hid (bvia B.out hb1)
  clear hb1
  go_wp2
  go_ret2
  exact ⟨rfl, B.out⟩
set_option maxRecDepth 100000 in
set_option maxHeartbeats 1000000 in
theorem rkeepsFC (a b c p q r s : Int) (w : World) (h : okL a b c = false) : Calls Try.prog 33 #[vL a b c, vM p q r s] w fun e w' => e = .returned (.tuple #[.bool false, .int .i64 2]) ∧ Below w.heap.size w w' := by
  have CC := Lib.hid (fun W => rcheckC a b c W)
  rw [show errL a b c = 2 from if_neg (by rw [h]; decide)] at CC
  clear h
  have G0 : Hid (Has (boxW w [([.int .i64 a, .int .i64 b, .int .i64 c], 23), ([.int .i64 p, .int .i64 q, .int .i64 r, .int .i64 s], 40)]) (w.heap.size) 23 [.int .i64 a, .int .i64 b, .int .i64 c]) := box_has [([.int .i64 a, .int .i64 b, .int .i64 c], 23), ([.int .i64 p, .int .i64 q, .int .i64 r, .int .i64 s], 40)] (w := w) (Below.refl _ _) (i := 0) rfl
  have G1 : Hid (Has (boxW w [([.int .i64 a, .int .i64 b, .int .i64 c], 23), ([.int .i64 p, .int .i64 q, .int .i64 r, .int .i64 s], 40)]) (w.heap.size + 1) 40 [.int .i64 p, .int .i64 q, .int .i64 r, .int .i64 s]) := box_has [([.int .i64 a, .int .i64 b, .int .i64 c], 23), ([.int .i64 p, .int .i64 q, .int .i64 r, .int .i64 s], 40)] (w := w) (Below.refl _ _) (i := 1) rfl
  have B := Lib.hid (boxW_below [([.int .i64 a, .int .i64 b, .int .i64 c], 23), ([.int .i64 p, .int .i64 q, .int .i64 r, .int .i64 s], 40)] w)
  obtain ⟨W1, hW1⟩ : ∃ W1, W1 = boxW w [([.int .i64 a, .int .i64 b, .int .i64 c], 23), ([.int .i64 p, .int .i64 q, .int .i64 r, .int .i64 s], 40)] := ⟨_, rfl⟩
  rw [← hW1] at G0 G1 B
  go_enter Try.func33, Try.ntmps33
  go_upto_region 1 with (fail)
  rw [show (w.alloc (.cells #[.int .i64 a, .int .i64 b, .int .i64 c] 23)).alloc (.cells #[.int .i64 p, .int .i64 q, .int .i64 r, .int .i64 s] 40) = W1 from hW1.symm]
  clear hW1
  have cG00 : W1.cell? ⟨w.heap.size, 0, none⟩ = some (.int .i64 a) := G0.out.cell 0
  have cG01 : W1.cell? ⟨w.heap.size, 1, none⟩ = some (.int .i64 b) := G0.out.cell 1
  have cG02 : W1.cell? ⟨w.heap.size, 2, none⟩ = some (.int .i64 c) := G0.out.cell 2
  go_wp2_with fail
  refine (CC.out _).mono ?_
  rintro e w1 ⟨rfl, hb1⟩
  clear cG00 cG01 cG02
  replace G0 := Lib.hid (G0.out.below hb1 G0.out.lt)
  replace G1 := Lib.hid (G1.out.below hb1 G1.out.lt)
  replace B := Lib.hid (bvia B.out hb1)
  clear hb1
  go_wp2
  go_ret2
  exact ⟨rfl, B.out⟩
theorem rdM_nil (w : World) : RdM4 w w.heap.size none [] := fun k m h => by simp at h
set_option maxRecDepth 100000 in
set_option maxHeartbeats 8000000 in
theorem groupsP (LD : LeadOK) (a b c p q r s : Int) (w : World) : Calls Try.prog 9 #[vL a b c, vM p q r s] w fun e w' => e = .returned (.bool true) ∧ Below w.heap.size w w' := by
  cases h : okL a b c with
  | false =>
    have C1 := Lib.hid (fun W => groupNC a b c W h)
    have C2 := Lib.hid (fun W => rgroupNC a b c W h)
    have C3 := Lib.hid (fun W => keepsFC a b c p q r s W h)
    have C4 := Lib.hid (fun W => rkeepsFC a b c p q r s W h)
    clear h LD
    have G0 : Hid (Has (boxW w [([.int .i64 a, .int .i64 b, .int .i64 c], 23), ([.int .i64 p, .int .i64 q, .int .i64 r, .int .i64 s], 40)]) (w.heap.size) 23 [.int .i64 a, .int .i64 b, .int .i64 c]) := box_has [([.int .i64 a, .int .i64 b, .int .i64 c], 23), ([.int .i64 p, .int .i64 q, .int .i64 r, .int .i64 s], 40)] (w := w) (Below.refl _ _) (i := 0) rfl
    have G1 : Hid (Has (boxW w [([.int .i64 a, .int .i64 b, .int .i64 c], 23), ([.int .i64 p, .int .i64 q, .int .i64 r, .int .i64 s], 40)]) (w.heap.size + 1) 40 [.int .i64 p, .int .i64 q, .int .i64 r, .int .i64 s]) := box_has [([.int .i64 a, .int .i64 b, .int .i64 c], 23), ([.int .i64 p, .int .i64 q, .int .i64 r, .int .i64 s], 40)] (w := w) (Below.refl _ _) (i := 1) rfl
    have B := Lib.hid (boxW_below [([.int .i64 a, .int .i64 b, .int .i64 c], 23), ([.int .i64 p, .int .i64 q, .int .i64 r, .int .i64 s], 40)] w)
    obtain ⟨W1, hW1⟩ : ∃ W1, W1 = boxW w [([.int .i64 a, .int .i64 b, .int .i64 c], 23), ([.int .i64 p, .int .i64 q, .int .i64 r, .int .i64 s], 40)] := ⟨_, rfl⟩
    rw [← hW1] at G0 G1 B
    go_enter Try.func9, Try.ntmps9
    go_upto_region 1 with (fail)
    rw [show (w.alloc (.cells #[.int .i64 a, .int .i64 b, .int .i64 c] 23)).alloc (.cells #[.int .i64 p, .int .i64 q, .int .i64 r, .int .i64 s] 40) = W1 from hW1.symm]
    clear hW1
    have cG00 : W1.cell? ⟨w.heap.size, 0, none⟩ = some (.int .i64 a) := G0.out.cell 0
    have cG01 : W1.cell? ⟨w.heap.size, 1, none⟩ = some (.int .i64 b) := G0.out.cell 1
    have cG02 : W1.cell? ⟨w.heap.size, 2, none⟩ = some (.int .i64 c) := G0.out.cell 2
    go_wp2_with fail
    refine (C1.out _).mono ?_
    rintro e w1 ⟨rfl, hb1⟩
    clear cG00 cG01 cG02
    replace G0 := Lib.hid (G0.out.below hb1 G0.out.lt)
    replace G1 := Lib.hid (G1.out.below hb1 G1.out.lt)
    replace B := Lib.hid (bvia B.out hb1)
    clear hb1
    have cG00 : w1.cell? ⟨w.heap.size, 0, none⟩ = some (.int .i64 a) := G0.out.cell 0
    have cG01 : w1.cell? ⟨w.heap.size, 1, none⟩ = some (.int .i64 b) := G0.out.cell 1
    have cG02 : w1.cell? ⟨w.heap.size, 2, none⟩ = some (.int .i64 c) := G0.out.cell 2
    go_wp2_with fail
    refine (C2.out _).mono ?_
    rintro e w2 ⟨rfl, hb2⟩
    clear cG00 cG01 cG02
    replace G0 := Lib.hid (G0.out.below hb2 G0.out.lt)
    replace G1 := Lib.hid (G1.out.below hb2 G1.out.lt)
    replace B := Lib.hid (bvia B.out hb2)
    clear hb2
    have cG00 : w2.cell? ⟨w.heap.size, 0, none⟩ = some (.int .i64 a) := G0.out.cell 0
    have cG01 : w2.cell? ⟨w.heap.size, 1, none⟩ = some (.int .i64 b) := G0.out.cell 1
    have cG02 : w2.cell? ⟨w.heap.size, 2, none⟩ = some (.int .i64 c) := G0.out.cell 2
    have cG10 : w2.cell? ⟨w.heap.size + 1, 0, none⟩ = some (.int .i64 p) := G1.out.cell 0
    have cG11 : w2.cell? ⟨w.heap.size + 1, 1, none⟩ = some (.int .i64 q) := G1.out.cell 1
    have cG12 : w2.cell? ⟨w.heap.size + 1, 2, none⟩ = some (.int .i64 r) := G1.out.cell 2
    have cG13 : w2.cell? ⟨w.heap.size + 1, 3, none⟩ = some (.int .i64 s) := G1.out.cell 3
    go_wp2_with fail
    refine (C3.out _).mono ?_
    rintro e w3 ⟨rfl, hb3⟩
    clear cG00 cG01 cG02 cG10 cG11 cG12 cG13
    replace G0 := Lib.hid (G0.out.below hb3 G0.out.lt)
    replace G1 := Lib.hid (G1.out.below hb3 G1.out.lt)
    replace B := Lib.hid (bvia B.out hb3)
    clear hb3
    have cG00 : w3.cell? ⟨w.heap.size, 0, none⟩ = some (.int .i64 a) := G0.out.cell 0
    have cG01 : w3.cell? ⟨w.heap.size, 1, none⟩ = some (.int .i64 b) := G0.out.cell 1
    have cG02 : w3.cell? ⟨w.heap.size, 2, none⟩ = some (.int .i64 c) := G0.out.cell 2
    have cG10 : w3.cell? ⟨w.heap.size + 1, 0, none⟩ = some (.int .i64 p) := G1.out.cell 0
    have cG11 : w3.cell? ⟨w.heap.size + 1, 1, none⟩ = some (.int .i64 q) := G1.out.cell 1
    have cG12 : w3.cell? ⟨w.heap.size + 1, 2, none⟩ = some (.int .i64 r) := G1.out.cell 2
    have cG13 : w3.cell? ⟨w.heap.size + 1, 3, none⟩ = some (.int .i64 s) := G1.out.cell 3
    go_wp2_with fail
    refine (C4.out _).mono ?_
    rintro e w4 ⟨rfl, hb4⟩
    clear cG00 cG01 cG02 cG10 cG11 cG12 cG13
    replace G0 := Lib.hid (G0.out.below hb4 G0.out.lt)
    replace G1 := Lib.hid (G1.out.below hb4 G1.out.lt)
    replace B := Lib.hid (bvia B.out hb4)
    clear hb4
    go_wp2_with fail
    refine (sameC none none 0 0 0 [] _ (rdM_nil _) (rdM_nil _) rfl (by omega)).mono ?_
    rintro e w5 ⟨rfl, hb5⟩
    replace G0 := Lib.hid (G0.out.below hb5 G0.out.lt)
    replace G1 := Lib.hid (G1.out.below hb5 G1.out.lt)
    replace B := Lib.hid (bvia B.out hb5)
    clear hb5
    go_wp2_with fail
    go_wp2_with fail
    refine (awakeC _).mono ?_
    rintro e w6 ⟨rfl, hb6⟩
    replace G0 := Lib.hid (G0.out.below hb6 G0.out.lt)
    replace G1 := Lib.hid (G1.out.below hb6 G1.out.lt)
    replace B := Lib.hid (bvia B.out hb6)
    clear hb6
    go_wp2
    go_ret
    exact ⟨rfl, B.out⟩
  | true =>
    obtain ⟨hv, hA, hC⟩ := okL_val h
    have HV : Hid (La.Val ⟨a, b, c⟩ ∧ a ≤ 10000 ∧ c ≤ 10000) := ⟨hv, hA, hC⟩
    have C1 := Lib.hid (fun W => groupTC a b c W h)
    have C2 := Lib.hid (fun W hf => rgroupTC LD a b c W h hf)
    have HOK := Lib.hid h
    clear h hv hA hC LD
    have G0 : Hid (Has (boxW w [([.int .i64 a, .int .i64 b, .int .i64 c], 23), ([.int .i64 p, .int .i64 q, .int .i64 r, .int .i64 s], 40)]) (w.heap.size) 23 [.int .i64 a, .int .i64 b, .int .i64 c]) := box_has [([.int .i64 a, .int .i64 b, .int .i64 c], 23), ([.int .i64 p, .int .i64 q, .int .i64 r, .int .i64 s], 40)] (w := w) (Below.refl _ _) (i := 0) rfl
    have G1 : Hid (Has (boxW w [([.int .i64 a, .int .i64 b, .int .i64 c], 23), ([.int .i64 p, .int .i64 q, .int .i64 r, .int .i64 s], 40)]) (w.heap.size + 1) 40 [.int .i64 p, .int .i64 q, .int .i64 r, .int .i64 s]) := box_has [([.int .i64 a, .int .i64 b, .int .i64 c], 23), ([.int .i64 p, .int .i64 q, .int .i64 r, .int .i64 s], 40)] (w := w) (Below.refl _ _) (i := 1) rfl
    have B := Lib.hid (boxW_below [([.int .i64 a, .int .i64 b, .int .i64 c], 23), ([.int .i64 p, .int .i64 q, .int .i64 r, .int .i64 s], 40)] w)
    obtain ⟨W1, hW1⟩ : ∃ W1, W1 = boxW w [([.int .i64 a, .int .i64 b, .int .i64 c], 23), ([.int .i64 p, .int .i64 q, .int .i64 r, .int .i64 s], 40)] := ⟨_, rfl⟩
    rw [← hW1] at G0 G1 B
    go_enter Try.func9, Try.ntmps9
    go_upto_region 1 with (fail)
    rw [show (w.alloc (.cells #[.int .i64 a, .int .i64 b, .int .i64 c] 23)).alloc (.cells #[.int .i64 p, .int .i64 q, .int .i64 r, .int .i64 s] 40) = W1 from hW1.symm]
    clear hW1
    have cG00 : W1.cell? ⟨w.heap.size, 0, none⟩ = some (.int .i64 a) := G0.out.cell 0
    have cG01 : W1.cell? ⟨w.heap.size, 1, none⟩ = some (.int .i64 b) := G0.out.cell 1
    have cG02 : W1.cell? ⟨w.heap.size, 2, none⟩ = some (.int .i64 c) := G0.out.cell 2
    go_wp2_with fail
    refine (C1.out _).mono ?_
    rintro e w1 ⟨GQ, hb1⟩
    clear cG00 cG01 cG02
    replace G0 := Lib.hid (G0.out.below hb1 G0.out.lt)
    replace G1 := Lib.hid (G1.out.below hb1 G1.out.lt)
    replace B := Lib.hid (bvia B.out hb1)
    clear hb1
    obtain ⟨l, m, A, cp, ms, ST, RD, HP, HO, rfl, hr⟩ := GQ
    have hfew := few_self HV.out.1 ST RD
    have hms := group_ldg HV.out.1 HV.out.2.1 HV.out.2.2 ST RD HP HO
    have hlen : ms.length ≤ 1000 := by
      rw [HP.length_eq, List.length_map]
      have := grp_len l 81
      omega
    have C2 := Lib.hid (fun W => C2.out W hfew)
    rw [hms] at hr hlen ⊢
    have HLN := Lib.hid hlen
    have HR := Lib.hid hr
    clear hfew hms hlen hr ST RD HP HO
    obtain ⟨ld, hld⟩ : ∃ ld, La.ldg ⟨a, b, c⟩ ⟨a, b, c⟩ = ld := ⟨_, rfl⟩
    rw [hld] at HR HLN ⊢
    have hld := Lib.hid hld
    have cG00 : w1.cell? ⟨w.heap.size, 0, none⟩ = some (.int .i64 a) := G0.out.cell 0
    have cG01 : w1.cell? ⟨w.heap.size, 1, none⟩ = some (.int .i64 b) := G0.out.cell 1
    have cG02 : w1.cell? ⟨w.heap.size, 2, none⟩ = some (.int .i64 c) := G0.out.cell 2
    go_wp2_with fail
    refine (C2.out _).mono ?_
    rintro e w2 ⟨RQ, hb2⟩
    clear cG00 cG01 cG02
    replace G0 := Lib.hid (G0.out.below hb2 G0.out.lt)
    replace G1 := Lib.hid (G1.out.below hb2 G1.out.lt)
    replace HR := Lib.hid (HR.out.up hb2)
    replace B := Lib.hid (bvia B.out hb2)
    clear hb2
    have RQ : ∃ (A : Option Addr) (cp : Nat), e = .returned (.tuple #[.slice A ld.length cp, .int .i64 0]) ∧ RdM4 w2 w2.heap.size A ld := by first | exact RQ | (unfold RGroupQ at RQ; rw [hld.out] at RQ; exact RQ)
    obtain ⟨A2, cp2, rfl, hr2⟩ := RQ
    have HR2 := Lib.hid hr2
    clear hr2
    cases hm : okM p q r s with
    | false =>
      have C3 := Lib.hid (fun W => keepsNC a b c p q r s W HOK.out hm)
      have C4 := Lib.hid (fun W => rkeepsNC a b c p q r s W HOK.out hm)
      clear hm
      have cG00 : w2.cell? ⟨w.heap.size, 0, none⟩ = some (.int .i64 a) := G0.out.cell 0
      have cG01 : w2.cell? ⟨w.heap.size, 1, none⟩ = some (.int .i64 b) := G0.out.cell 1
      have cG02 : w2.cell? ⟨w.heap.size, 2, none⟩ = some (.int .i64 c) := G0.out.cell 2
      have cG10 : w2.cell? ⟨w.heap.size + 1, 0, none⟩ = some (.int .i64 p) := G1.out.cell 0
      have cG11 : w2.cell? ⟨w.heap.size + 1, 1, none⟩ = some (.int .i64 q) := G1.out.cell 1
      have cG12 : w2.cell? ⟨w.heap.size + 1, 2, none⟩ = some (.int .i64 r) := G1.out.cell 2
      have cG13 : w2.cell? ⟨w.heap.size + 1, 3, none⟩ = some (.int .i64 s) := G1.out.cell 3
      go_wp2_with fail
      refine (C3.out _).mono ?_
      rintro e w3 ⟨rfl, hb3⟩
      replace HR2 := Lib.hid (HR2.out.up hb3)
      clear cG00 cG01 cG02 cG10 cG11 cG12 cG13
      replace G0 := Lib.hid (G0.out.below hb3 G0.out.lt)
      replace G1 := Lib.hid (G1.out.below hb3 G1.out.lt)
      replace HR := Lib.hid (HR.out.up hb3)
      replace B := Lib.hid (bvia B.out hb3)
      clear hb3
      have cG00 : w3.cell? ⟨w.heap.size, 0, none⟩ = some (.int .i64 a) := G0.out.cell 0
      have cG01 : w3.cell? ⟨w.heap.size, 1, none⟩ = some (.int .i64 b) := G0.out.cell 1
      have cG02 : w3.cell? ⟨w.heap.size, 2, none⟩ = some (.int .i64 c) := G0.out.cell 2
      have cG10 : w3.cell? ⟨w.heap.size + 1, 0, none⟩ = some (.int .i64 p) := G1.out.cell 0
      have cG11 : w3.cell? ⟨w.heap.size + 1, 1, none⟩ = some (.int .i64 q) := G1.out.cell 1
      have cG12 : w3.cell? ⟨w.heap.size + 1, 2, none⟩ = some (.int .i64 r) := G1.out.cell 2
      have cG13 : w3.cell? ⟨w.heap.size + 1, 3, none⟩ = some (.int .i64 s) := G1.out.cell 3
      go_wp2_with fail
      refine (C4.out _).mono ?_
      rintro e w4 ⟨rfl, hb4⟩
      replace HR2 := Lib.hid (HR2.out.up hb4)
      clear cG00 cG01 cG02 cG10 cG11 cG12 cG13
      replace G0 := Lib.hid (G0.out.below hb4 G0.out.lt)
      replace G1 := Lib.hid (G1.out.below hb4 G1.out.lt)
      replace HR := Lib.hid (HR.out.up hb4)
      replace B := Lib.hid (bvia B.out hb4)
      clear hb4
      go_wp2_with fail
      refine (sameC A A2 ld.length cp cp2 ld _ HR.out HR2.out rfl HLN.out).mono ?_
      rintro e w5 ⟨rfl, hb5⟩
      replace HR2 := Lib.hid (HR2.out.up hb5)
      replace G0 := Lib.hid (G0.out.below hb5 G0.out.lt)
      replace G1 := Lib.hid (G1.out.below hb5 G1.out.lt)
      replace HR := Lib.hid (HR.out.up hb5)
      replace B := Lib.hid (bvia B.out hb5)
      clear hb5
      go_wp2_with fail
      go_wp2_with fail
      refine (awakeC _).mono ?_
      rintro e w6 ⟨rfl, hb6⟩
      replace HR2 := Lib.hid (HR2.out.up hb6)
      replace G0 := Lib.hid (G0.out.below hb6 G0.out.lt)
      replace G1 := Lib.hid (G1.out.below hb6 G1.out.lt)
      replace HR := Lib.hid (HR.out.up hb6)
      replace B := Lib.hid (bvia B.out hb6)
      clear hb6
      go_wp2
      go_ret
      exact ⟨rfl, B.out⟩
    | true =>
      have C3 := Lib.hid (fun W => keepsC a b c p q r s W HOK.out hm)
      have C4 := Lib.hid (fun W => rkeepsC a b c p q r s W HOK.out hm)
      generalize decide (La.lead ⟨a, b, c⟩ ⟨p, q, r, s⟩ = ⟨a, b, c⟩) = E at *
      clear hm
      have cG00 : w2.cell? ⟨w.heap.size, 0, none⟩ = some (.int .i64 a) := G0.out.cell 0
      have cG01 : w2.cell? ⟨w.heap.size, 1, none⟩ = some (.int .i64 b) := G0.out.cell 1
      have cG02 : w2.cell? ⟨w.heap.size, 2, none⟩ = some (.int .i64 c) := G0.out.cell 2
      have cG10 : w2.cell? ⟨w.heap.size + 1, 0, none⟩ = some (.int .i64 p) := G1.out.cell 0
      have cG11 : w2.cell? ⟨w.heap.size + 1, 1, none⟩ = some (.int .i64 q) := G1.out.cell 1
      have cG12 : w2.cell? ⟨w.heap.size + 1, 2, none⟩ = some (.int .i64 r) := G1.out.cell 2
      have cG13 : w2.cell? ⟨w.heap.size + 1, 3, none⟩ = some (.int .i64 s) := G1.out.cell 3
      go_wp2_with fail
      refine (C3.out _).mono ?_
      rintro e w3 ⟨rfl, hb3⟩
      replace HR2 := Lib.hid (HR2.out.up hb3)
      clear cG00 cG01 cG02 cG10 cG11 cG12 cG13
      replace G0 := Lib.hid (G0.out.below hb3 G0.out.lt)
      replace G1 := Lib.hid (G1.out.below hb3 G1.out.lt)
      replace HR := Lib.hid (HR.out.up hb3)
      replace B := Lib.hid (bvia B.out hb3)
      clear hb3
      have cG00 : w3.cell? ⟨w.heap.size, 0, none⟩ = some (.int .i64 a) := G0.out.cell 0
      have cG01 : w3.cell? ⟨w.heap.size, 1, none⟩ = some (.int .i64 b) := G0.out.cell 1
      have cG02 : w3.cell? ⟨w.heap.size, 2, none⟩ = some (.int .i64 c) := G0.out.cell 2
      have cG10 : w3.cell? ⟨w.heap.size + 1, 0, none⟩ = some (.int .i64 p) := G1.out.cell 0
      have cG11 : w3.cell? ⟨w.heap.size + 1, 1, none⟩ = some (.int .i64 q) := G1.out.cell 1
      have cG12 : w3.cell? ⟨w.heap.size + 1, 2, none⟩ = some (.int .i64 r) := G1.out.cell 2
      have cG13 : w3.cell? ⟨w.heap.size + 1, 3, none⟩ = some (.int .i64 s) := G1.out.cell 3
      go_wp2_with fail
      refine (C4.out _).mono ?_
      rintro e w4 ⟨rfl, hb4⟩
      replace HR2 := Lib.hid (HR2.out.up hb4)
      clear cG00 cG01 cG02 cG10 cG11 cG12 cG13
      replace G0 := Lib.hid (G0.out.below hb4 G0.out.lt)
      replace G1 := Lib.hid (G1.out.below hb4 G1.out.lt)
      replace HR := Lib.hid (HR.out.up hb4)
      replace B := Lib.hid (bvia B.out hb4)
      clear hb4
      go_wp2_with fail
      refine (sameC A A2 ld.length cp cp2 ld _ HR.out HR2.out rfl HLN.out).mono ?_
      rintro e w5 ⟨rfl, hb5⟩
      replace HR2 := Lib.hid (HR2.out.up hb5)
      replace G0 := Lib.hid (G0.out.below hb5 G0.out.lt)
      replace G1 := Lib.hid (G1.out.below hb5 G1.out.lt)
      replace HR := Lib.hid (HR.out.up hb5)
      replace B := Lib.hid (bvia B.out hb5)
      clear hb5
      go_wp2_with fail
      go_wp2_with fail
      refine (awakeC _).mono ?_
      rintro e w6 ⟨rfl, hb6⟩
      replace HR2 := Lib.hid (HR2.out.up hb6)
      replace G0 := Lib.hid (G0.out.below hb6 G0.out.lt)
      replace G1 := Lib.hid (G1.out.below hb6 G1.out.lt)
      replace HR := Lib.hid (HR.out.up hb6)
      replace B := Lib.hid (bvia B.out hb6)
      clear hb6
      go_wp2
      go_ret
      exact ⟨rfl, B.out⟩
end Go.Proofs.Ytmghpaibdgkbfaa
