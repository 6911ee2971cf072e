/-
  The law GridsShortest.
-/
import Derived.Test.YtmghpaibdgkbfaaVA9
import Derived.Test.YtmghpaibdgkbfaaVA10
import Derived.Test.YtmghpaibdgkbfaaVA19
import Derived.Deep.CutRange
namespace Go.Proofs.Ytmghpaibdgkbfaa
open Go.RowKit
set_option maxRecDepth 100000 in
set_option maxHeartbeats 16000000 in
theorem shortestP (a b c x y : Int) (w : World) : Calls Try.prog 8 #[vL a b c, vP x y] w fun e w' => e = .returned (.bool true) ∧ Below w.heap.size w w' := by
  have CC := Lib.hid (fun W => checkC a b c W)
  cases h : okL a b c with
  | false =>
    rw [show errL a b c = 2 from if_neg (by rw [h]; decide)] at CC
    have CR := Lib.hid (fun W => reduceNC a b c W h)
    clear h
    have G0 : Hid (Has (boxW w [([.int .i64 a, .int .i64 b, .int .i64 c], 23), ([.int .i64 x, .int .i64 y], 25)]) (w.heap.size) 23 [.int .i64 a, .int .i64 b, .int .i64 c]) := box_has [([.int .i64 a, .int .i64 b, .int .i64 c], 23), ([.int .i64 x, .int .i64 y], 25)] (w := w) (Below.refl _ _) (i := 0) rfl
    have G1 : Hid (Has (boxW w [([.int .i64 a, .int .i64 b, .int .i64 c], 23), ([.int .i64 x, .int .i64 y], 25)]) (w.heap.size + 1) 25 [.int .i64 x, .int .i64 y]) := box_has [([.int .i64 a, .int .i64 b, .int .i64 c], 23), ([.int .i64 x, .int .i64 y], 25)] (w := w) (Below.refl _ _) (i := 1) rfl
    have B := Lib.hid (boxW_below [([.int .i64 a, .int .i64 b, .int .i64 c], 23), ([.int .i64 x, .int .i64 y], 25)] w)
    obtain ⟨W1, hW1⟩ : ∃ W1, W1 = boxW w [([.int .i64 a, .int .i64 b, .int .i64 c], 23), ([.int .i64 x, .int .i64 y], 25)] := ⟨_, rfl⟩
    rw [← hW1] at G0 G1 B
    go_enter Try.func8, Try.ntmps8
    go_upto_region 1 with (fail)
    rw [show (w.alloc (.cells #[.int .i64 a, .int .i64 b, .int .i64 c] 23)).alloc (.cells #[.int .i64 x, .int .i64 y] 25) = W1 from hW1.symm]
    clear hW1
    have cG00 : W1.cell? ⟨w.heap.size, 0, none⟩ = some (.int .i64 a) := G0.out.cell 0
    have cG01 : W1.cell? ⟨w.heap.size, 1, none⟩ = some (.int .i64 b) := G0.out.cell 1
    have cG02 : W1.cell? ⟨w.heap.size, 2, none⟩ = some (.int .i64 c) := G0.out.cell 2
    have cG10 : W1.cell? ⟨w.heap.size + 1, 0, none⟩ = some (.int .i64 x) := G1.out.cell 0
    have cG11 : W1.cell? ⟨w.heap.size + 1, 1, none⟩ = some (.int .i64 y) := G1.out.cell 1
    go_wp2_with fail
    refine (CR.out _).mono ?_
    rintro e w1 ⟨rfl, hb1⟩
    clear cG00 cG01 cG02 cG10 cG11
    replace G0 := Lib.hid (G0.out.below hb1 G0.out.lt)
    replace G1 := Lib.hid (G1.out.below hb1 G1.out.lt)
    replace B := Lib.hid (bvia B.out hb1)
    clear hb1
    have lG0G5 : w.heap.size < w1.heap.size := G0.out.lt
    have lG1G5 : w.heap.size + 1 < w1.heap.size := G1.out.lt
    go_upto_region 2 with (fail)
    have D1 := Lib.hid ((Below.refl w1.heap.size w1).alloc (Nat.le_refl _) (.cells #[.int .i64 0, .int .i64 0, .int .i64 0] 23))
    replace D1 := Lib.hid (D1.out.alloc (by simp) (.cells #[.int .i64 0, .int .i64 0, .int .i64 0, .int .i64 0] 40))
    have G5 : Hid (Has ((w1.alloc (.cells #[.int .i64 0, .int .i64 0, .int .i64 0] 23)).alloc (.cells #[.int .i64 0, .int .i64 0, .int .i64 0, .int .i64 0] 40)) w1.heap.size 23 [.int .i64 0, .int .i64 0, .int .i64 0]) := Has.alloc (Has.new rfl) _
    have G6 : Hid (Has ((w1.alloc (.cells #[.int .i64 0, .int .i64 0, .int .i64 0] 23)).alloc (.cells #[.int .i64 0, .int .i64 0, .int .i64 0, .int .i64 0] 40)) (w1.heap.size + 1) 40 [.int .i64 0, .int .i64 0, .int .i64 0, .int .i64 0]) := Has.new2 rfl
    replace G0 := Lib.hid (G0.out.below D1.out G0.out.lt)
    replace G1 := Lib.hid (G1.out.below D1.out G1.out.lt)
    replace B := Lib.hid (bvia B.out D1.out)
    clear D1
    generalize (w1.alloc (.cells #[.int .i64 0, .int .i64 0, .int .i64 0] 23)).alloc (.cells #[.int .i64 0, .int .i64 0, .int .i64 0, .int .i64 0] 40) = V2 at *
    generalize w1.heap.size = KG5 at *
    have cG00 : V2.cell? ⟨w.heap.size, 0, none⟩ = some (.int .i64 a) := G0.out.cell 0
    have cG01 : V2.cell? ⟨w.heap.size, 1, none⟩ = some (.int .i64 b) := G0.out.cell 1
    have cG02 : V2.cell? ⟨w.heap.size, 2, none⟩ = some (.int .i64 c) := G0.out.cell 2
    go_wp2_with fail
    refine (CC.out _).mono ?_
    rintro e w3 ⟨rfl, hb3⟩
    clear cG00 cG01 cG02
    replace G0 := Lib.hid (G0.out.below hb3 G0.out.lt)
    replace G1 := Lib.hid (G1.out.below hb3 G1.out.lt)
    replace G5 := Lib.hid (G5.out.below hb3 G5.out.lt)
    replace G6 := Lib.hid (G6.out.below hb3 G6.out.lt)
    replace B := Lib.hid (bvia B.out hb3)
    clear hb3
    go_wp2_with fail
    go_wp2_with fail
    refine (awakeC _).mono ?_
    rintro e w4 ⟨rfl, hb4⟩
    replace G0 := Lib.hid (G0.out.below hb4 G0.out.lt)
    replace G1 := Lib.hid (G1.out.below hb4 G1.out.lt)
    replace G5 := Lib.hid (G5.out.below hb4 G5.out.lt)
    replace G6 := Lib.hid (G6.out.below hb4 G6.out.lt)
    replace B := Lib.hid (bvia B.out hb4)
    clear hb4
    go_wp2
    go_ret
    exact ⟨rfl, B.out⟩
  | true =>
    have HOK := Lib.hid (okL_val h)
    have HLL := Lib.hid h
    have CR := Lib.hid (fun W => reduceTC a b c W h)
    have t1 := tmod_in x (show (0 : Int) < 1001 by decide)
    have t2 := tmod_in y (show (0 : Int) < 1001 by decide)
    clear h CC
    have G0 : Hid (Has (boxW w [([.int .i64 a, .int .i64 b, .int .i64 c], 23), ([.int .i64 x, .int .i64 y], 25)]) (w.heap.size) 23 [.int .i64 a, .int .i64 b, .int .i64 c]) := box_has [([.int .i64 a, .int .i64 b, .int .i64 c], 23), ([.int .i64 x, .int .i64 y], 25)] (w := w) (Below.refl _ _) (i := 0) rfl
    have G1 : Hid (Has (boxW w [([.int .i64 a, .int .i64 b, .int .i64 c], 23), ([.int .i64 x, .int .i64 y], 25)]) (w.heap.size + 1) 25 [.int .i64 x, .int .i64 y]) := box_has [([.int .i64 a, .int .i64 b, .int .i64 c], 23), ([.int .i64 x, .int .i64 y], 25)] (w := w) (Below.refl _ _) (i := 1) rfl
    have B := Lib.hid (boxW_below [([.int .i64 a, .int .i64 b, .int .i64 c], 23), ([.int .i64 x, .int .i64 y], 25)] w)
    obtain ⟨W1, hW1⟩ : ∃ W1, W1 = boxW w [([.int .i64 a, .int .i64 b, .int .i64 c], 23), ([.int .i64 x, .int .i64 y], 25)] := ⟨_, rfl⟩
    rw [← hW1] at G0 G1 B
    go_enter Try.func8, Try.ntmps8
    go_upto_region 1 with (fail)
    rw [show (w.alloc (.cells #[.int .i64 a, .int .i64 b, .int .i64 c] 23)).alloc (.cells #[.int .i64 x, .int .i64 y] 25) = W1 from hW1.symm]
    clear hW1
    have cG00 : W1.cell? ⟨w.heap.size, 0, none⟩ = some (.int .i64 a) := G0.out.cell 0
    have cG01 : W1.cell? ⟨w.heap.size, 1, none⟩ = some (.int .i64 b) := G0.out.cell 1
    have cG02 : W1.cell? ⟨w.heap.size, 2, none⟩ = some (.int .i64 c) := G0.out.cell 2
    have cG10 : W1.cell? ⟨w.heap.size + 1, 0, none⟩ = some (.int .i64 x) := G1.out.cell 0
    have cG11 : W1.cell? ⟨w.heap.size + 1, 1, none⟩ = some (.int .i64 y) := G1.out.cell 1
    go_wp2_with fail
    refine (CR.out _).mono ?_
    rintro e w1 ⟨⟨l, m0, ST, RD, rfl⟩, hb1⟩
    clear cG00 cG01 cG02 cG10 cG11
    replace G0 := Lib.hid (G0.out.below hb1 G0.out.lt)
    replace G1 := Lib.hid (G1.out.below hb1 G1.out.lt)
    replace B := Lib.hid (bvia B.out hb1)
    clear hb1
    have STM := Lib.hid (redM_st ST)
    have HRD := Lib.hid RD
    clear ST RD
    generalize redM l m0 = M at *
    have hF := STM.out.fit HOK.out.1 HOK.out.2.1 HOK.out.2.2
    obtain ⟨⟨fa, fc⟩, ⟨fb, fd⟩⟩ := hF
    have r1 : M.a.tmod 10001 = M.a := tmod_small ⟨by omega, by omega⟩
    have r2 : M.c.tmod 10001 = M.c := tmod_small ⟨by omega, by omega⟩
    have HSH := Lib.hid (shortest STM.out HRD.out (x.tmod 1001) (y.tmod 1001))
    have C1 : Hid (∀ W : World, Calls Try.prog 13 #[vL a b c, vP 0 0, vP (x.tmod 1001) (y.tmod 1001)] W fun e w' => e = .returned (.tuple #[.int .i64 (La.prod ⟨a, b, c⟩ (x.tmod 1001) (y.tmod 1001) (x.tmod 1001) (y.tmod 1001)), .int .i64 0]) ∧ Below W.heap.size W w') := fun W => by
      have := squareC a b c 0 0 (x.tmod 1001) (y.tmod 1001) W
      have hp : okPs [((0 : Int), (0 : Int)), (x.tmod 1001, y.tmod 1001), (x.tmod 1001, y.tmod 1001)] = true := by
        unfold okPs
        simp only [List.all_cons, List.all_nil, Bool.and_true, Bool.and_eq_true]
        exact ⟨by decide, (okP_iff _ _).2 ⟨⟨by omega, by omega⟩, ⟨by omega, by omega⟩⟩, (okP_iff _ _).2 ⟨⟨by omega, by omega⟩, ⟨by omega, by omega⟩⟩⟩
      rw [show dotR a b c 0 0 (x.tmod 1001) (y.tmod 1001) (x.tmod 1001) (y.tmod 1001) = (La.prod ⟨a, b, c⟩ (x.tmod 1001) (y.tmod 1001) (x.tmod 1001) (y.tmod 1001), 0) by
        unfold dotR; rw [if_pos ⟨HLL.out, hp⟩, prodL_la, Int.sub_zero, Int.sub_zero]] at this
      exact this
    have C2 : Hid (∀ W : World, Calls Try.prog 20 #[vP 0 0, vP (x.tmod 1001) (y.tmod 1001), vP M.a M.c] W fun e w' => e = .returned (.tuple #[.int .i64 (sgn (x.tmod 1001 * M.c - y.tmod 1001 * M.a)), .int .i64 0]) ∧ Below W.heap.size W w') := fun W => by
      have := sideC 0 0 (x.tmod 1001) (y.tmod 1001) M.a M.c W
      have hp : okPs [((0 : Int), (0 : Int)), (x.tmod 1001, y.tmod 1001), (M.a, M.c)] = true := by
        unfold okPs
        simp only [List.all_cons, List.all_nil, Bool.and_true, Bool.and_eq_true]
        exact ⟨by decide, (okP_iff _ _).2 ⟨⟨by omega, by omega⟩, ⟨by omega, by omega⟩⟩, (okP_iff _ _).2 ⟨⟨by omega, by omega⟩, ⟨by omega, by omega⟩⟩⟩
      rw [show sideR 0 0 (x.tmod 1001) (y.tmod 1001) M.a M.c = (sgn (x.tmod 1001 * M.c - y.tmod 1001 * M.a), 0) by
        unfold sideR; rw [if_pos hp, Int.sub_zero, Int.sub_zero, Int.sub_zero, Int.sub_zero]] at this
      exact this
    clear t1 t2 fa fb fc fd
    have lG0G5 : w.heap.size < w1.heap.size := G0.out.lt
    have lG1G5 : w.heap.size + 1 < w1.heap.size := G1.out.lt
    go_upto_region 2 with (fail)
    have D1 := Lib.hid ((Below.refl w1.heap.size w1).alloc (Nat.le_refl _) (.cells #[.int .i64 l.a, .int .i64 l.b, .int .i64 l.c] 23))
    replace D1 := Lib.hid (D1.out.alloc (by simp) (.cells #[.int .i64 M.a, .int .i64 M.b, .int .i64 M.c, .int .i64 M.d] 40))
    have G5 : Hid (Has ((w1.alloc (.cells #[.int .i64 l.a, .int .i64 l.b, .int .i64 l.c] 23)).alloc (.cells #[.int .i64 M.a, .int .i64 M.b, .int .i64 M.c, .int .i64 M.d] 40)) w1.heap.size 23 [.int .i64 l.a, .int .i64 l.b, .int .i64 l.c]) := Has.alloc (Has.new rfl) _
    have G6 : Hid (Has ((w1.alloc (.cells #[.int .i64 l.a, .int .i64 l.b, .int .i64 l.c] 23)).alloc (.cells #[.int .i64 M.a, .int .i64 M.b, .int .i64 M.c, .int .i64 M.d] 40)) (w1.heap.size + 1) 40 [.int .i64 M.a, .int .i64 M.b, .int .i64 M.c, .int .i64 M.d]) := Has.new2 rfl
    replace G0 := Lib.hid (G0.out.below D1.out G0.out.lt)
    replace G1 := Lib.hid (G1.out.below D1.out G1.out.lt)
    replace B := Lib.hid (bvia B.out D1.out)
    clear D1
    generalize (w1.alloc (.cells #[.int .i64 l.a, .int .i64 l.b, .int .i64 l.c] 23)).alloc (.cells #[.int .i64 M.a, .int .i64 M.b, .int .i64 M.c, .int .i64 M.d] 40) = V2 at *
    generalize w1.heap.size = KG5 at *
    have cG10 : V2.cell? ⟨w.heap.size + 1, 0, none⟩ = some (.int .i64 x) := G1.out.cell 0
    have cG11 : V2.cell? ⟨w.heap.size + 1, 1, none⟩ = some (.int .i64 y) := G1.out.cell 1
    go_upto_region 4 with (fail)
    go_wp2_with fail
    refine (ptC _ _ _).mono ?_
    rintro e w3 ⟨rfl, hb3⟩
    clear cG10 cG11
    replace G0 := Lib.hid (G0.out.below hb3 G0.out.lt)
    replace G1 := Lib.hid (G1.out.below hb3 G1.out.lt)
    replace G5 := Lib.hid (G5.out.below hb3 G5.out.lt)
    replace G6 := Lib.hid (G6.out.below hb3 G6.out.lt)
    replace B := Lib.hid (bvia B.out hb3)
    clear hb3
    have cG10 : w3.cell? ⟨w.heap.size + 1, 0, none⟩ = some (.int .i64 x) := G1.out.cell 0
    have fG10 : w3.frozen? ⟨w.heap.size + 1, 0, none⟩ = false := G1.out.free 0
    have cG11 : w3.cell? ⟨w.heap.size + 1, 1, none⟩ = some (.int .i64 y) := G1.out.cell 1
    have fG11 : w3.frozen? ⟨w.heap.size + 1, 1, none⟩ = false := G1.out.free 1
    go_upto_region 5 with (fail)
    clear cG10 fG10 cG11 fG11
    have hbG1 : w.heap.size ≤ w.heap.size + 1 := by omega
    replace G1 : Hid (Has ((w3.setCell ⟨w.heap.size + 1, 0, none⟩ (.int .i64 (x.tmod 1001))).setCell ⟨w.heap.size + 1, 1, none⟩ (.int .i64 (y.tmod 1001))) (w.heap.size + 1) 25 [.int .i64 (x.tmod 1001), .int .i64 (y.tmod 1001)]) := ((G1.out.set 0 (.int .i64 (x.tmod 1001))).set 1 (.int .i64 (y.tmod 1001)))
    replace G0 : Hid (Has ((w3.setCell ⟨w.heap.size + 1, 0, none⟩ (.int .i64 (x.tmod 1001))).setCell ⟨w.heap.size + 1, 1, none⟩ (.int .i64 (y.tmod 1001))) (w.heap.size) 23 [.int .i64 a, .int .i64 b, .int .i64 c]) := ((G0.out.far (by omega) 0 _).far (by omega) 1 _)
    replace G5 : Hid (Has ((w3.setCell ⟨w.heap.size + 1, 0, none⟩ (.int .i64 (x.tmod 1001))).setCell ⟨w.heap.size + 1, 1, none⟩ (.int .i64 (y.tmod 1001))) (KG5) 23 [.int .i64 l.a, .int .i64 l.b, .int .i64 l.c]) := ((G5.out.far (by omega) 0 _).far (by omega) 1 _)
    replace G6 : Hid (Has ((w3.setCell ⟨w.heap.size + 1, 0, none⟩ (.int .i64 (x.tmod 1001))).setCell ⟨w.heap.size + 1, 1, none⟩ (.int .i64 (y.tmod 1001))) (KG5 + 1) 40 [.int .i64 M.a, .int .i64 M.b, .int .i64 M.c, .int .i64 M.d]) := ((G6.out.far (by omega) 0 _).far (by omega) 1 _)
    replace B := Lib.hid ((B.out.setCell (p := ⟨w.heap.size + 1, 0, none⟩) hbG1 (.int .i64 (x.tmod 1001))).setCell (p := ⟨w.heap.size + 1, 1, none⟩) hbG1 (.int .i64 (y.tmod 1001)))
    generalize (w3.setCell ⟨w.heap.size + 1, 0, none⟩ (.int .i64 (x.tmod 1001))).setCell ⟨w.heap.size + 1, 1, none⟩ (.int .i64 (y.tmod 1001)) = V4 at *
    generalize x.tmod 1001 = p, y.tmod 1001 = q at *
    generalize La.prod ⟨a, b, c⟩ p q p q = N at *
    obtain ⟨Z, hZ⟩ : ∃ Z, Z = p * M.c - q * M.a := ⟨_, rfl⟩
    rw [← hZ] at HSH C2
    clear hZ
    have cG00 : V4.cell? ⟨w.heap.size, 0, none⟩ = some (.int .i64 a) := G0.out.cell 0
    have cG01 : V4.cell? ⟨w.heap.size, 1, none⟩ = some (.int .i64 b) := G0.out.cell 1
    have cG02 : V4.cell? ⟨w.heap.size, 2, none⟩ = some (.int .i64 c) := G0.out.cell 2
    have cG10 : V4.cell? ⟨w.heap.size + 1, 0, none⟩ = some (.int .i64 p) := G1.out.cell 0
    have cG11 : V4.cell? ⟨w.heap.size + 1, 1, none⟩ = some (.int .i64 q) := G1.out.cell 1
    have cG50 : V4.cell? ⟨KG5, 0, none⟩ = some (.int .i64 l.a) := G5.out.cell 0
    have cG51 : V4.cell? ⟨KG5, 1, none⟩ = some (.int .i64 l.b) := G5.out.cell 1
    have cG52 : V4.cell? ⟨KG5, 2, none⟩ = some (.int .i64 l.c) := G5.out.cell 2
    have cG60 : V4.cell? ⟨KG5 + 1, 0, none⟩ = some (.int .i64 M.a) := G6.out.cell 0
    have cG61 : V4.cell? ⟨KG5 + 1, 1, none⟩ = some (.int .i64 M.b) := G6.out.cell 1
    have cG62 : V4.cell? ⟨KG5 + 1, 2, none⟩ = some (.int .i64 M.c) := G6.out.cell 2
    have cG63 : V4.cell? ⟨KG5 + 1, 3, none⟩ = some (.int .i64 M.d) := G6.out.cell 3
    have qG0 : w.heap.size < V4.heap.size := G0.out.lt
    have qG1 : w.heap.size + 1 < V4.heap.size := G1.out.lt
    have qG5 : KG5 < V4.heap.size := G5.out.lt
    have qG6 : KG5 + 1 < V4.heap.size := G6.out.lt
    have hxc := fun (x : Ext V4) => x.cell
    refine wp_region_ext (by kernel_rfl) (by kernel_rfl) ?_
    repeat (go_big_quiet_step ((first | (go_at_call 29; exact ext_call (ptC _ _ _)) | (go_at_call 13; exact ext_call (C1.out _)))))
    refine wpQuiet_nil ?_
    intro w5 hw'
    have hb5 := ext_below hw'
    clear hw'
    clear cG00 cG01 cG02 cG10 cG11 cG50 cG51 cG52 cG60 cG61 cG62 cG63 qG0 qG1 qG5 qG6 hxc
    replace G0 := Lib.hid (G0.out.below hb5 G0.out.lt)
    replace G1 := Lib.hid (G1.out.below hb5 G1.out.lt)
    replace G5 := Lib.hid (G5.out.below hb5 G5.out.lt)
    replace G6 := Lib.hid (G6.out.below hb5 G6.out.lt)
    replace B := Lib.hid (bvia B.out hb5)
    clear hb5
    go_upto_region 6 with (fail)
    have cG00 : w5.cell? ⟨w.heap.size, 0, none⟩ = some (.int .i64 a) := G0.out.cell 0
    have cG01 : w5.cell? ⟨w.heap.size, 1, none⟩ = some (.int .i64 b) := G0.out.cell 1
    have cG02 : w5.cell? ⟨w.heap.size, 2, none⟩ = some (.int .i64 c) := G0.out.cell 2
    have cG10 : w5.cell? ⟨w.heap.size + 1, 0, none⟩ = some (.int .i64 p) := G1.out.cell 0
    have cG11 : w5.cell? ⟨w.heap.size + 1, 1, none⟩ = some (.int .i64 q) := G1.out.cell 1
    have cG50 : w5.cell? ⟨KG5, 0, none⟩ = some (.int .i64 l.a) := G5.out.cell 0
    have cG51 : w5.cell? ⟨KG5, 1, none⟩ = some (.int .i64 l.b) := G5.out.cell 1
    have cG52 : w5.cell? ⟨KG5, 2, none⟩ = some (.int .i64 l.c) := G5.out.cell 2
    have cG60 : w5.cell? ⟨KG5 + 1, 0, none⟩ = some (.int .i64 M.a) := G6.out.cell 0
    have cG61 : w5.cell? ⟨KG5 + 1, 1, none⟩ = some (.int .i64 M.b) := G6.out.cell 1
    have cG62 : w5.cell? ⟨KG5 + 1, 2, none⟩ = some (.int .i64 M.c) := G6.out.cell 2
    have cG63 : w5.cell? ⟨KG5 + 1, 3, none⟩ = some (.int .i64 M.d) := G6.out.cell 3
    have qG0 : w.heap.size < w5.heap.size := G0.out.lt
    have qG1 : w.heap.size + 1 < w5.heap.size := G1.out.lt
    have qG5 : KG5 < w5.heap.size := G5.out.lt
    have qG6 : KG5 + 1 < w5.heap.size := G6.out.lt
    have hxc := fun (x : Ext w5) => x.cell
    refine wp_region_ext (by kernel_rfl) (by kernel_rfl) ?_
    repeat (go_big_quiet_step ((first | (go_at_call 29; exact ext_call (ptC _ _ _)) | (go_at_call 20; exact ext_call (C2.out _)))))
    refine wpQuiet_nil ?_
    intro w6 hw'
    have hb6 := ext_below hw'
    clear hw'
    clear cG00 cG01 cG02 cG10 cG11 cG50 cG51 cG52 cG60 cG61 cG62 cG63 qG0 qG1 qG5 qG6 hxc
    replace G0 := Lib.hid (G0.out.below hb6 G0.out.lt)
    replace G1 := Lib.hid (G1.out.below hb6 G1.out.lt)
    replace G5 := Lib.hid (G5.out.below hb6 G5.out.lt)
    replace G6 := Lib.hid (G6.out.below hb6 G6.out.lt)
    replace B := Lib.hid (bvia B.out hb6)
    clear hb6
    have cG10 : w6.cell? ⟨w.heap.size + 1, 0, none⟩ = some (.int .i64 p) := G1.out.cell 0
    have cG11 : w6.cell? ⟨w.heap.size + 1, 1, none⟩ = some (.int .i64 q) := G1.out.cell 1
    have cG50 : w6.cell? ⟨KG5, 0, none⟩ = some (.int .i64 l.a) := G5.out.cell 0
    have cG51 : w6.cell? ⟨KG5, 1, none⟩ = some (.int .i64 l.b) := G5.out.cell 1
    have cG52 : w6.cell? ⟨KG5, 2, none⟩ = some (.int .i64 l.c) := G5.out.cell 2
    go_upto_region 9 with (fail)
    have hq := fun W => eqPt p q 0 0 W
    generalize hS : sgn Z = S at *
    have HSZ : Hid (Z = 0 → S = 0) := fun h => by rw [← hS, h]; rfl
    have HSN : Hid (S ≠ 0 → l.c ≤ N) := fun h => HSH.out.2 (fun hz => h (HSZ.out hz))
    have HPN : Hid (sameP p q 0 0 = false → l.a ≤ N) := fun h => HSH.out.1 (by
      unfold sameP at h
      simp only [Bool.and_eq_false_iff, beq_eq_false_iff_ne] at h
      exact h)
    clear hS HSZ HSH
    generalize sameP p q 0 0 = e at *
    by_cases hs : S = 0
    · subst hs
      cases e with
      | true =>
        have qG0 : w.heap.size < w6.heap.size := G0.out.lt
        have qG1 : w.heap.size + 1 < w6.heap.size := G1.out.lt
        have qG5 : KG5 < w6.heap.size := G5.out.lt
        have qG6 : KG5 + 1 < w6.heap.size := G6.out.lt
        have hxc := fun (x : Ext w6) => x.cell
        refine wp_region_ext (by kernel_rfl) (by kernel_rfl) ?_
        repeat (go_big_quiet_step ((first | (go_at_call 29; exact ext_call (ptC _ _ _)) | (go_at_call 19; exact ext_call (awakeC _)))))
        refine wpQuiet_nil ?_
        intro w7 hw'
        have hb7 := ext_below hw'
        clear hw'
        clear cG10 cG11 cG50 cG51 cG52 qG0 qG1 qG5 qG6 hxc
        replace G0 := Lib.hid (G0.out.below hb7 G0.out.lt)
        replace G1 := Lib.hid (G1.out.below hb7 G1.out.lt)
        replace G5 := Lib.hid (G5.out.below hb7 G5.out.lt)
        replace G6 := Lib.hid (G6.out.below hb7 G6.out.lt)
        replace B := Lib.hid (bvia B.out hb7)
        clear hb7
        go_wp2
        go_ret
        exact ⟨rfl, B.out⟩
      | false =>
        have j1 : decide (l.a ≤ N) = true := decide_eq_true (HPN.out rfl)
        have qG0 : w.heap.size < w6.heap.size := G0.out.lt
        have qG1 : w.heap.size + 1 < w6.heap.size := G1.out.lt
        have qG5 : KG5 < w6.heap.size := G5.out.lt
        have qG6 : KG5 + 1 < w6.heap.size := G6.out.lt
        have hxc := fun (x : Ext w6) => x.cell
        refine wp_region_ext (by kernel_rfl) (by kernel_rfl) ?_
        repeat (go_big_quiet_step ((first | (go_at_call 29; exact ext_call (ptC _ _ _)) | (go_at_call 19; exact ext_call (awakeC _)))))
        refine wpQuiet_nil ?_
        intro w7 hw'
        have hb7 := ext_below hw'
        clear hw'
        clear cG10 cG11 cG50 cG51 cG52 qG0 qG1 qG5 qG6 hxc
        replace G0 := Lib.hid (G0.out.below hb7 G0.out.lt)
        replace G1 := Lib.hid (G1.out.below hb7 G1.out.lt)
        replace G5 := Lib.hid (G5.out.below hb7 G5.out.lt)
        replace G6 := Lib.hid (G6.out.below hb7 G6.out.lt)
        replace B := Lib.hid (bvia B.out hb7)
        clear hb7
        go_wp2
        go_ret
        exact ⟨rfl, B.out⟩
    · have j0 : (S == 0) = false := beq_eq_false_iff_ne.2 hs
      have j2 : decide (l.c ≤ N) = true := decide_eq_true (HSN.out hs)
      clear hs
      cases e with
      | true =>
        have qG0 : w.heap.size < w6.heap.size := G0.out.lt
        have qG1 : w.heap.size + 1 < w6.heap.size := G1.out.lt
        have qG5 : KG5 < w6.heap.size := G5.out.lt
        have qG6 : KG5 + 1 < w6.heap.size := G6.out.lt
        have hxc := fun (x : Ext w6) => x.cell
        refine wp_region_ext (by kernel_rfl) (by kernel_rfl) ?_
        repeat (go_big_quiet_step ((first | (go_at_call 29; exact ext_call (ptC _ _ _)) | (go_at_call 19; exact ext_call (awakeC _)))))
        refine wpQuiet_nil ?_
        intro w7 hw'
        have hb7 := ext_below hw'
        clear hw'
        clear cG10 cG11 cG50 cG51 cG52 qG0 qG1 qG5 qG6 hxc
        replace G0 := Lib.hid (G0.out.below hb7 G0.out.lt)
        replace G1 := Lib.hid (G1.out.below hb7 G1.out.lt)
        replace G5 := Lib.hid (G5.out.below hb7 G5.out.lt)
        replace G6 := Lib.hid (G6.out.below hb7 G6.out.lt)
        replace B := Lib.hid (bvia B.out hb7)
        clear hb7
        go_wp2
        go_ret
        exact ⟨rfl, B.out⟩
      | false =>
        have j1 : decide (l.a ≤ N) = true := decide_eq_true (HPN.out rfl)
        have qG0 : w.heap.size < w6.heap.size := G0.out.lt
        have qG1 : w.heap.size + 1 < w6.heap.size := G1.out.lt
        have qG5 : KG5 < w6.heap.size := G5.out.lt
        have qG6 : KG5 + 1 < w6.heap.size := G6.out.lt
        have hxc := fun (x : Ext w6) => x.cell
        refine wp_region_ext (by kernel_rfl) (by kernel_rfl) ?_
        repeat (go_big_quiet_step ((first | (go_at_call 29; exact ext_call (ptC _ _ _)) | (go_at_call 19; exact ext_call (awakeC _)))))
        refine wpQuiet_nil ?_
        intro w7 hw'
        have hb7 := ext_below hw'
        clear hw'
        clear cG10 cG11 cG50 cG51 cG52 qG0 qG1 qG5 qG6 hxc
        replace G0 := Lib.hid (G0.out.below hb7 G0.out.lt)
        replace G1 := Lib.hid (G1.out.below hb7 G1.out.lt)
        replace G5 := Lib.hid (G5.out.below hb7 G5.out.lt)
        replace G6 := Lib.hid (G6.out.below hb7 G6.out.lt)
        replace B := Lib.hid (bvia B.out hb7)
        clear hb7
        go_wp2
        go_ret
        exact ⟨rfl, B.out⟩
end Go.Proofs.Ytmghpaibdgkbfaa
