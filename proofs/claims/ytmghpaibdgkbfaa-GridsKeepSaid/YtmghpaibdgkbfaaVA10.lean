/-
  Arguments of the statements of chapter 6: lattices, points, matrices, moves, four points.
-/
import Derived.Test.YtmghpaibdgkbfaaVA1
import Derived.Test.YtmghpaibdgkbfaaVA7
import Derived.Test.YtmghpaibdgkbfaaVA9
import Derived.Lib.SmallJoins
import Derived.Deep.Slices
import Derived.Deep.Strs
import Derived.OpenShut
import Derived.Carry
import Derived.Deep.CutRange
namespace Go.Proofs.Ytmghpaibdgkbfaa
open Go.RowKit Go.ChangeShapes Go.WideShapes Go.ChangeAt Go.Joins Go.Deep
theorem cellsP : Try.prog.cellsOf 25 = 2 := by kernel_rfl
theorem cellsL : Try.prog.cellsOf 23 = 3 := by kernel_rfl
theorem cellsM : Try.prog.cellsOf 40 = 4 := by kernel_rfl
theorem cellsV : Try.prog.cellsOf 58 = 6 := by kernel_rfl
theorem cells64 : Try.prog.cellsOf 2 = 1 := by kernel_rfl
section
variable {H : Type} {enc : TypeId × Value → H} {w : World} {held : Bool}
set_option maxRecDepth 100000 in
theorem cells_pt {n : Nat} {cs : List Value} {x : DataW H × List MemPlace} {sp : Nat → Bool} {base : Nat} (h : DataW.trod enc Try.prog w base sp held n 25 cs = some x) : ∃ a b : Int, cs = [.int .i64 a, .int .i64 b] := by
  obtain ⟨y0, y1, m, _, hl, h0, h1⟩ := trod_struct2 Try.underlying25 h
  rw [cellsP] at hl
  match cs, hl with
  | [v0, v1], _ =>
    simp [cells64] at h0 h1
    obtain ⟨a, e0, _, _⟩ := DataW.trod_int Try.underlying2 h0
    obtain ⟨b, e1, _, _⟩ := DataW.trod_int Try.underlying2 h1
    simp at e0 e1
    subst e0 e1
    exact ⟨a, b, rfl⟩
set_option maxRecDepth 100000 in
theorem cells_mx {n : Nat} {cs : List Value} {x : DataW H × List MemPlace} {sp : Nat → Bool} {base : Nat} (h : DataW.trod enc Try.prog w base sp held n 40 cs = some x) : ∃ a b c d : Int, cs = [.int .i64 a, .int .i64 b, .int .i64 c, .int .i64 d] := by
  obtain ⟨y0, y1, y2, y3, m, _, hl, h0, h1, h2, h3⟩ := trod_struct4 Try.underlying40 h
  rw [cellsM] at hl
  match cs, hl with
  | [v0, v1, v2, v3], _ =>
    simp [cells64] at h0 h1 h2 h3
    obtain ⟨a, e0, _, _⟩ := DataW.trod_int Try.underlying2 h0
    obtain ⟨b, e1, _, _⟩ := DataW.trod_int Try.underlying2 h1
    obtain ⟨c, e2, _, _⟩ := DataW.trod_int Try.underlying2 h2
    obtain ⟨d, e3, _, _⟩ := DataW.trod_int Try.underlying2 h3
    simp at e0 e1 e2 e3
    subst e0 e1 e2 e3
    exact ⟨a, b, c, d, rfl⟩
set_option maxRecDepth 100000 in
theorem cells_mv {n : Nat} {cs : List Value} {x : DataW H × List MemPlace} {sp : Nat → Bool} {base : Nat} (h : DataW.trod enc Try.prog w base sp held n 58 cs = some x) : ∃ a b c d u v : Int, cs = [.int .i64 a, .int .i64 b, .int .i64 c, .int .i64 d, .int .i64 u, .int .i64 v] := by
  obtain ⟨y0, y1, m, _, hl, h0, h1⟩ := trod_struct2 Try.underlying58 h
  rw [cellsV] at hl
  match cs, hl with
  | [v0, v1, v2, v3, v4, v5], _ =>
    simp [cellsM, cellsP] at h0 h1
    obtain ⟨a, b, c, d, e⟩ := cells_mx h0
    obtain ⟨u, v, e'⟩ := cells_pt h1
    simp at e e'
    obtain ⟨rfl, rfl, rfl, rfl⟩ := e
    obtain ⟨rfl, rfl⟩ := e'
    exact ⟨a, b, c, d, u, v, rfl⟩
theorem agg_of {cs : Array Value} {l : List Value} (h : (Value.agg cs).cells.toList = l) : Value.agg cs = .agg l.toArray := by
  subst h
  show Value.agg cs = .agg cs.toList.toArray
  rw [Array.toArray_toList]
set_option maxRecDepth 100000 in
theorem openPt {r : Reach} {b0 : Nat} {v : Value} {d : DataW H} {ps : List MemPlace} {sp : Nat → Bool} (hv : Value.okWide Try.prog w r b0 25 v) (h : DataW.Trod enc Try.prog w 0 sp held 25 v d ps) : ∃ x y : Int, v = vP x y := by
  obtain ⟨cs, rfl, _⟩ := okWide_struct Try.underlying25 hv
  obtain ⟨fuel, hf⟩ := h
  obtain ⟨x, y, e⟩ := cells_pt hf
  exact ⟨x, y, agg_of e⟩
set_option maxRecDepth 100000 in
theorem openMat {r : Reach} {b0 : Nat} {v : Value} {d : DataW H} {ps : List MemPlace} {sp : Nat → Bool} (hv : Value.okWide Try.prog w r b0 40 v) (h : DataW.Trod enc Try.prog w 0 sp held 40 v d ps) : ∃ a b c e : Int, v = vM a b c e := by
  obtain ⟨cs, rfl, _⟩ := okWide_struct Try.underlying40 hv
  obtain ⟨fuel, hf⟩ := h
  obtain ⟨a, b, c, d, e⟩ := cells_mx hf
  exact ⟨a, b, c, d, agg_of e⟩
set_option maxRecDepth 100000 in
theorem openMove {r : Reach} {b0 : Nat} {v : Value} {d : DataW H} {ps : List MemPlace} {sp : Nat → Bool} (hv : Value.okWide Try.prog w r b0 58 v) (h : DataW.Trod enc Try.prog w 0 sp held 58 v d ps) : ∃ a b c e x y : Int, v = .agg #[.int .i64 a, .int .i64 b, .int .i64 c, .int .i64 e, .int .i64 x, .int .i64 y] := by
  obtain ⟨cs, rfl, _⟩ := okWide_struct Try.underlying58 hv
  obtain ⟨fuel, hf⟩ := h
  obtain ⟨a, b, c, d, x, y, e⟩ := cells_mv hf
  exact ⟨a, b, c, d, x, y, agg_of e⟩
set_option maxRecDepth 100000 in
theorem openLat {r : Reach} {b0 : Nat} {v : Value} {d : DataW H} {ps : List MemPlace} {sp : Nat → Bool} (hv : Value.okWide Try.prog w r b0 23 v) (h : DataW.Trod enc Try.prog w 0 sp held 23 v d ps) : ∃ a b c : Int, v = vL a b c := by
  obtain ⟨c0, c1, c2, y0, y1, y2, m, rfl, rfl, rfl, h0, h1, h2⟩ := open_agg3 Try.underlying23 (by kernel_rfl) cellsL hv h
  obtain ⟨k, e0, _, _⟩ := DataW.trod_int Try.underlying2 h0
  obtain ⟨a, e1, _, _⟩ := DataW.trod_int Try.underlying2 h1
  obtain ⟨s, e2, _, _⟩ := DataW.trod_int Try.underlying2 h2
  simp at e0 e1 e2
  subst e0 e1 e2
  exact ⟨k, a, s, rfl⟩
abbrev vF (a b c d e f g h : Int) : Value := .agg #[.int .i64 a, .int .i64 b, .int .i64 c, .int .i64 d, .int .i64 e, .int .i64 f, .int .i64 g, .int .i64 h]
set_option maxRecDepth 100000 in
theorem openFour {r : Reach} {b0 : Nat} {v : Value} {d : DataW H} {ps : List MemPlace} {sp : Nat → Bool} (hv : Value.okWide Try.prog w r b0 27 v) (h : DataW.Trod enc Try.prog w 0 sp held 27 v d ps) : ∃ a b c e f g i j : Int, v = vF a b c e f g i j := by
  obtain ⟨cs, rfl, _⟩ := okWide_struct Try.underlying27 hv
  obtain ⟨fuel, hf⟩ := h
  obtain ⟨y0, y1, y2, y3, m, _, hl, h0, h1, h2, h3⟩ := trod_struct4 Try.underlying27 hf
  rw [show Try.prog.cellsOf 27 = 8 by kernel_rfl] at hl
  obtain ⟨l⟩ := cs
  change l.length = 8 at hl
  match l, hl with
  | [v0, v1, v2, v3, v4, v5, v6, v7], _ =>
    simp [cellsP, Value.cells] at h0 h1 h2 h3
    obtain ⟨a, b, e0⟩ := cells_pt h0
    obtain ⟨c, d, e1⟩ := cells_pt h1
    obtain ⟨e, f, e2⟩ := cells_pt h2
    obtain ⟨g, i, e3⟩ := cells_pt h3
    simp at e0 e1 e2 e3
    obtain ⟨rfl, rfl⟩ := e0
    obtain ⟨rfl, rfl⟩ := e1
    obtain ⟨rfl, rfl⟩ := e2
    obtain ⟨rfl, rfl⟩ := e3
    exact ⟨a, b, c, d, e, f, g, i, rfl⟩
end
end Go.Proofs.Ytmghpaibdgkbfaa
/-
  The law GridsMeasures.
-/
namespace Go.Proofs.Ytmghpaibdgkbfaa
open Go.RowKit
set_option maxRecDepth 100000 in
set_option maxHeartbeats 4000000 in
theorem measuresP (a b c ox oy px py qx qy rx ry : Int) (w : World) : Calls Try.prog 3 #[vL a b c, vF ox oy px py qx qy rx ry] w fun e w' => e = .returned (.bool true) ∧ Below w.heap.size w w' := by
  have C1 := Lib.hid (fun W => squareC a b c px py qx qy W)
  have C2 := Lib.hid (fun W => rsquareC a b c px py qx qy W)
  have C3 := Lib.hid (fun W => dotC a b c ox oy px py qx qy W)
  have C4 := Lib.hid (fun W => rdotC a b c ox oy px py qx qy W)
  have C5 := Lib.hid (fun W => checkC a b c W)
  have C6 := Lib.hid (fun W => rcheckC a b c W)
  generalize dotR a b c px py qx qy qx qy = D at *
  generalize dotR a b c ox oy px py qx qy = E at *
  generalize errL a b c = R at *
  have G0 : Hid (Has (boxW w [([.int .i64 a, .int .i64 b, .int .i64 c], 23), ([.int .i64 ox, .int .i64 oy, .int .i64 px, .int .i64 py, .int .i64 qx, .int .i64 qy, .int .i64 rx, .int .i64 ry], 27)]) (w.heap.size) 23 [.int .i64 a, .int .i64 b, .int .i64 c]) := box_has [([.int .i64 a, .int .i64 b, .int .i64 c], 23), ([.int .i64 ox, .int .i64 oy, .int .i64 px, .int .i64 py, .int .i64 qx, .int .i64 qy, .int .i64 rx, .int .i64 ry], 27)] (w := w) (Below.refl _ _) (i := 0) rfl
  have G1 : Hid (Has (boxW w [([.int .i64 a, .int .i64 b, .int .i64 c], 23), ([.int .i64 ox, .int .i64 oy, .int .i64 px, .int .i64 py, .int .i64 qx, .int .i64 qy, .int .i64 rx, .int .i64 ry], 27)]) (w.heap.size + 1) 27 [.int .i64 ox, .int .i64 oy, .int .i64 px, .int .i64 py, .int .i64 qx, .int .i64 qy, .int .i64 rx, .int .i64 ry]) := box_has [([.int .i64 a, .int .i64 b, .int .i64 c], 23), ([.int .i64 ox, .int .i64 oy, .int .i64 px, .int .i64 py, .int .i64 qx, .int .i64 qy, .int .i64 rx, .int .i64 ry], 27)] (w := w) (Below.refl _ _) (i := 1) rfl
  have B := Lib.hid (boxW_below [([.int .i64 a, .int .i64 b, .int .i64 c], 23), ([.int .i64 ox, .int .i64 oy, .int .i64 px, .int .i64 py, .int .i64 qx, .int .i64 qy, .int .i64 rx, .int .i64 ry], 27)] w)
  obtain ⟨W1, hW1⟩ : ∃ W1, W1 = boxW w [([.int .i64 a, .int .i64 b, .int .i64 c], 23), ([.int .i64 ox, .int .i64 oy, .int .i64 px, .int .i64 py, .int .i64 qx, .int .i64 qy, .int .i64 rx, .int .i64 ry], 27)] := ⟨_, rfl⟩
  rw [← hW1] at G0 G1 B
  go_enter Try.func3, Try.ntmps3
  go_upto_region 1 with (fail)
  rw [show (w.alloc (.cells #[.int .i64 a, .int .i64 b, .int .i64 c] 23)).alloc (.cells #[.int .i64 ox, .int .i64 oy, .int .i64 px, .int .i64 py, .int .i64 qx, .int .i64 qy, .int .i64 rx, .int .i64 ry] 27) = W1 from hW1.symm]
  clear hW1
  have cG00 : W1.cell? ⟨w.heap.size, 0, none⟩ = some (.int .i64 a) := G0.out.cell 0
  have cG01 : W1.cell? ⟨w.heap.size, 1, none⟩ = some (.int .i64 b) := G0.out.cell 1
  have cG02 : W1.cell? ⟨w.heap.size, 2, none⟩ = some (.int .i64 c) := G0.out.cell 2
  have cG10 : W1.cell? ⟨w.heap.size + 1, 0, none⟩ = some (.int .i64 ox) := G1.out.cell 0
  have cG11 : W1.cell? ⟨w.heap.size + 1, 1, none⟩ = some (.int .i64 oy) := G1.out.cell 1
  have cG12 : W1.cell? ⟨w.heap.size + 1, 2, none⟩ = some (.int .i64 px) := G1.out.cell 2
  have cG13 : W1.cell? ⟨w.heap.size + 1, 3, none⟩ = some (.int .i64 py) := G1.out.cell 3
  have cG14 : W1.cell? ⟨w.heap.size + 1, 4, none⟩ = some (.int .i64 qx) := G1.out.cell 4
  have cG15 : W1.cell? ⟨w.heap.size + 1, 5, none⟩ = some (.int .i64 qy) := G1.out.cell 5
  have cG16 : W1.cell? ⟨w.heap.size + 1, 6, none⟩ = some (.int .i64 rx) := G1.out.cell 6
  have cG17 : W1.cell? ⟨w.heap.size + 1, 7, none⟩ = some (.int .i64 ry) := G1.out.cell 7
  go_wp2_with fail
  refine (C1.out _).mono ?_
  rintro e w1 ⟨rfl, hb1⟩
  clear cG00 cG01 cG02 cG10 cG11 cG12 cG13 cG14 cG15 cG16 cG17
  replace G0 := Lib.hid (G0.out.below hb1 G0.out.lt)
  replace G1 := Lib.hid (G1.out.below hb1 G1.out.lt)
  replace B := Lib.hid (bvia B.out hb1)
  clear hb1
  have cG00 : w1.cell? ⟨w.heap.size, 0, none⟩ = some (.int .i64 a) := G0.out.cell 0
  have cG01 : w1.cell? ⟨w.heap.size, 1, none⟩ = some (.int .i64 b) := G0.out.cell 1
  have cG02 : w1.cell? ⟨w.heap.size, 2, none⟩ = some (.int .i64 c) := G0.out.cell 2
  have cG10 : w1.cell? ⟨w.heap.size + 1, 0, none⟩ = some (.int .i64 ox) := G1.out.cell 0
  have cG11 : w1.cell? ⟨w.heap.size + 1, 1, none⟩ = some (.int .i64 oy) := G1.out.cell 1
  have cG12 : w1.cell? ⟨w.heap.size + 1, 2, none⟩ = some (.int .i64 px) := G1.out.cell 2
  have cG13 : w1.cell? ⟨w.heap.size + 1, 3, none⟩ = some (.int .i64 py) := G1.out.cell 3
  have cG14 : w1.cell? ⟨w.heap.size + 1, 4, none⟩ = some (.int .i64 qx) := G1.out.cell 4
  have cG15 : w1.cell? ⟨w.heap.size + 1, 5, none⟩ = some (.int .i64 qy) := G1.out.cell 5
  have cG16 : w1.cell? ⟨w.heap.size + 1, 6, none⟩ = some (.int .i64 rx) := G1.out.cell 6
  have cG17 : w1.cell? ⟨w.heap.size + 1, 7, none⟩ = some (.int .i64 ry) := G1.out.cell 7
  go_wp2_with fail
  refine (C2.out _).mono ?_
  rintro e w2 ⟨rfl, hb2⟩
  clear cG00 cG01 cG02 cG10 cG11 cG12 cG13 cG14 cG15 cG16 cG17
  replace G0 := Lib.hid (G0.out.below hb2 G0.out.lt)
  replace G1 := Lib.hid (G1.out.below hb2 G1.out.lt)
  replace B := Lib.hid (bvia B.out hb2)
  clear hb2
  have cG00 : w2.cell? ⟨w.heap.size, 0, none⟩ = some (.int .i64 a) := G0.out.cell 0
  have cG01 : w2.cell? ⟨w.heap.size, 1, none⟩ = some (.int .i64 b) := G0.out.cell 1
  have cG02 : w2.cell? ⟨w.heap.size, 2, none⟩ = some (.int .i64 c) := G0.out.cell 2
  have cG10 : w2.cell? ⟨w.heap.size + 1, 0, none⟩ = some (.int .i64 ox) := G1.out.cell 0
  have cG11 : w2.cell? ⟨w.heap.size + 1, 1, none⟩ = some (.int .i64 oy) := G1.out.cell 1
  have cG12 : w2.cell? ⟨w.heap.size + 1, 2, none⟩ = some (.int .i64 px) := G1.out.cell 2
  have cG13 : w2.cell? ⟨w.heap.size + 1, 3, none⟩ = some (.int .i64 py) := G1.out.cell 3
  have cG14 : w2.cell? ⟨w.heap.size + 1, 4, none⟩ = some (.int .i64 qx) := G1.out.cell 4
  have cG15 : w2.cell? ⟨w.heap.size + 1, 5, none⟩ = some (.int .i64 qy) := G1.out.cell 5
  have cG16 : w2.cell? ⟨w.heap.size + 1, 6, none⟩ = some (.int .i64 rx) := G1.out.cell 6
  have cG17 : w2.cell? ⟨w.heap.size + 1, 7, none⟩ = some (.int .i64 ry) := G1.out.cell 7
  go_wp2_with fail
  refine (C3.out _).mono ?_
  rintro e w3 ⟨rfl, hb3⟩
  clear cG00 cG01 cG02 cG10 cG11 cG12 cG13 cG14 cG15 cG16 cG17
  replace G0 := Lib.hid (G0.out.below hb3 G0.out.lt)
  replace G1 := Lib.hid (G1.out.below hb3 G1.out.lt)
  replace B := Lib.hid (bvia B.out hb3)
  clear hb3
  have cG00 : w3.cell? ⟨w.heap.size, 0, none⟩ = some (.int .i64 a) := G0.out.cell 0
  have cG01 : w3.cell? ⟨w.heap.size, 1, none⟩ = some (.int .i64 b) := G0.out.cell 1
  have cG02 : w3.cell? ⟨w.heap.size, 2, none⟩ = some (.int .i64 c) := G0.out.cell 2
  have cG10 : w3.cell? ⟨w.heap.size + 1, 0, none⟩ = some (.int .i64 ox) := G1.out.cell 0
  have cG11 : w3.cell? ⟨w.heap.size + 1, 1, none⟩ = some (.int .i64 oy) := G1.out.cell 1
  have cG12 : w3.cell? ⟨w.heap.size + 1, 2, none⟩ = some (.int .i64 px) := G1.out.cell 2
  have cG13 : w3.cell? ⟨w.heap.size + 1, 3, none⟩ = some (.int .i64 py) := G1.out.cell 3
  have cG14 : w3.cell? ⟨w.heap.size + 1, 4, none⟩ = some (.int .i64 qx) := G1.out.cell 4
  have cG15 : w3.cell? ⟨w.heap.size + 1, 5, none⟩ = some (.int .i64 qy) := G1.out.cell 5
  have cG16 : w3.cell? ⟨w.heap.size + 1, 6, none⟩ = some (.int .i64 rx) := G1.out.cell 6
  have cG17 : w3.cell? ⟨w.heap.size + 1, 7, none⟩ = some (.int .i64 ry) := G1.out.cell 7
  go_wp2_with fail
  refine (C4.out _).mono ?_
  rintro e w4 ⟨rfl, hb4⟩
  clear cG00 cG01 cG02 cG10 cG11 cG12 cG13 cG14 cG15 cG16 cG17
  replace G0 := Lib.hid (G0.out.below hb4 G0.out.lt)
  replace G1 := Lib.hid (G1.out.below hb4 G1.out.lt)
  replace B := Lib.hid (bvia B.out hb4)
  clear hb4
  go_upto_region 5 with (fail)
  have cG00 : w4.cell? ⟨w.heap.size, 0, none⟩ = some (.int .i64 a) := G0.out.cell 0
  have cG01 : w4.cell? ⟨w.heap.size, 1, none⟩ = some (.int .i64 b) := G0.out.cell 1
  have cG02 : w4.cell? ⟨w.heap.size, 2, none⟩ = some (.int .i64 c) := G0.out.cell 2
  have cG10 : w4.cell? ⟨w.heap.size + 1, 0, none⟩ = some (.int .i64 ox) := G1.out.cell 0
  have cG11 : w4.cell? ⟨w.heap.size + 1, 1, none⟩ = some (.int .i64 oy) := G1.out.cell 1
  have cG12 : w4.cell? ⟨w.heap.size + 1, 2, none⟩ = some (.int .i64 px) := G1.out.cell 2
  have cG13 : w4.cell? ⟨w.heap.size + 1, 3, none⟩ = some (.int .i64 py) := G1.out.cell 3
  have cG14 : w4.cell? ⟨w.heap.size + 1, 4, none⟩ = some (.int .i64 qx) := G1.out.cell 4
  have cG15 : w4.cell? ⟨w.heap.size + 1, 5, none⟩ = some (.int .i64 qy) := G1.out.cell 5
  have cG16 : w4.cell? ⟨w.heap.size + 1, 6, none⟩ = some (.int .i64 rx) := G1.out.cell 6
  have cG17 : w4.cell? ⟨w.heap.size + 1, 7, none⟩ = some (.int .i64 ry) := G1.out.cell 7
  have qG0 : w.heap.size < w4.heap.size := G0.out.lt
  have qG1 : w.heap.size + 1 < w4.heap.size := G1.out.lt
  have hxc := fun (x : Ext w4) => x.cell
  refine wp_region_ext (by kernel_rfl) (by kernel_rfl) ?_
  repeat (go_big_quiet_step ((first | (go_at_call 17; exact ext_call (C5.out _)) | (go_at_call 18; exact ext_call (C6.out _)) | (go_at_call 19; exact ext_call (awakeC _)))))
  refine wpQuiet_nil ?_
  intro w5 hw'
  have hb5 := ext_below hw'
  clear hw'
  clear cG00 cG01 cG02 cG10 cG11 cG12 cG13 cG14 cG15 cG16 cG17 qG0 qG1 hxc
  replace G0 := Lib.hid (G0.out.below hb5 G0.out.lt)
  replace G1 := Lib.hid (G1.out.below hb5 G1.out.lt)
  replace B := Lib.hid (bvia B.out hb5)
  clear hb5
  go_wp2
  go_ret
  exact ⟨rfl, B.out⟩
end Go.Proofs.Ytmghpaibdgkbfaa
/-
  Contracts of chapter 6: Turn, the document's.
-/
namespace Go.Proofs.Ytmghpaibdgkbfaa
open Go.RowKit
def rturnV (ox oy fx fy px py qx qy : Int) : Int := if prt (fx - ox) (fy - oy) (px - ox) (py - oy) = prt (fx - ox) (fy - oy) (qx - ox) (qy - oy) then -sgn ((px - ox) * (qy - oy) - (py - oy) * (qx - ox)) else sgn (prt (fx - ox) (fy - oy) (px - ox) (py - oy) - prt (fx - ox) (fy - oy) (qx - ox) (qy - oy))
def rturnR (ox oy fx fy px py qx qy : Int) : Int × Int := if turnOk ox oy fx fy px py qx qy = true then (rturnV ox oy fx fy px py qx qy, 0) else (0, 2)
theorem prt_in (x y u v : Int) : 0 ≤ prt x y u v ∧ prt x y u v ≤ 3 := by unfold prt; split <;> (try split) <;> (try split) <;> omega
theorem sgn_in (n : Int) : -1 ≤ sgn n ∧ sgn n ≤ 1 := by unfold sgn; split <;> (try split) <;> omega
set_option maxRecDepth 100000 in
set_option maxHeartbeats 1000000 in
theorem rturnC (ox oy fx fy px py qx qy : Int) (w : World) : Calls Try.prog 23 #[vP ox oy, vP fx fy, vP px py, vP qx qy] w fun e w' => e = .returned (.tuple #[.int .i64 (rturnR ox oy fx fy px py qx qy).1, .int .i64 (rturnR ox oy fx fy px py qx qy).2]) ∧ Below w.heap.size w w' := by
  obtain ⟨D, hD⟩ : ∃ D, D = rturnR ox oy fx fy px py qx qy := ⟨_, rfl⟩
  rw [← hD]
  have HD := Lib.hid hD
  clear hD
  have F0 := Lib.hid (fun (W : World) (hb : Below (w.heap.size + 4) (boxW w [cP ox oy, cP fx fy, cP px py, cP qx qy]) W) => fun i d h => box_has [cP ox oy, cP fx fy, cP px py, cP qx qy] hb (i := i) (c := d) h)
  have S0 : Hid ((boxW w [cP ox oy, cP fx fy, cP px py, cP qx qy]).heap.size = w.heap.size + 4) := boxW_size [cP ox oy, cP fx fy, cP px py, cP qx qy] w
  have B0 := Lib.hid (boxW_below [cP ox oy, cP fx fy, cP px py, cP qx qy] w)
  have CP := Lib.hid (refPs (some ⟨(boxW w [cP ox oy, cP fx fy, cP px py, cP qx qy]).heap.size, 0, none⟩) 4 4 [(ox, oy), (fx, fy), (px, py), (qx, qy)] ((boxW w [cP ox oy, cP fx fy, cP px py, cP qx qy]).alloc (.cells #[.int .i64 ox, .int .i64 oy, .int .i64 fx, .int .i64 fy, .int .i64 px, .int .i64 py, .int .i64 qx, .int .i64 qy] 25)) (rdP_new [(ox, oy), (fx, fy), (px, py), (qx, qy)]) rfl (by decide))
  rw [S0.out] at CP
  cases hP : okPs [(ox, oy), (fx, fy), (px, py), (qx, qy)] with
  | false =>
    rw [hP] at CP
    have hD2 : D = (0, 2) := HD.out.trans (if_neg (fun h => by unfold turnOk at h; rw [hP, Bool.false_and] at h; cases h))
    subst hD2
    clear hP HD
    go_enter Try.func23, Try.ntmps23
    go_wp2_with fail
    refine CP.out.mono ?_
    rintro e w2 ⟨rfl, hb2⟩
    go_wp2
    go_ret2
    exact ⟨rfl, bvia B0.out (bvia ((Below.refl _ (boxW w [cP ox oy, cP fx fy, cP px py, cP qx qy])).alloc (Nat.le_refl _) _) hb2)⟩
  | true =>
    rw [hP] at CP
    go_enter Try.func23, Try.ntmps23
    go_wp2_with fail
    refine CP.out.mono ?_
    rintro e w2 ⟨rfl, hb2⟩
    have hb3 := bvia ((Below.refl _ (boxW w [cP ox oy, cP fx fy, cP px py, cP qx qy])).alloc (Nat.le_refl _) (.cells #[.int .i64 ox, .int .i64 oy, .int .i64 fx, .int .i64 fy, .int .i64 px, .int .i64 py, .int .i64 qx, .int .i64 qy] 25)) hb2
    have B2 := Lib.hid (bvia B0.out hb3)
    rw [S0.out] at hb3
    have g0 := F0.out w2 hb3 0 _ rfl
    have g1 := F0.out w2 hb3 1 _ rfl
    have g2 := F0.out w2 hb3 2 _ rfl
    have g3 := F0.out w2 hb3 3 _ rfl
    have x0 : w2.cell? ⟨w.heap.size, 0, none⟩ = some (.int .i64 ox) := g0.cell 0
    have x1 : w2.cell? ⟨w.heap.size, 1, none⟩ = some (.int .i64 oy) := g0.cell 1
    have x2 : w2.cell? ⟨w.heap.size + 1, 0, none⟩ = some (.int .i64 fx) := g1.cell 0
    have x3 : w2.cell? ⟨w.heap.size + 1, 1, none⟩ = some (.int .i64 fy) := g1.cell 1
    have x4 : w2.cell? ⟨w.heap.size + 1 + 1, 0, none⟩ = some (.int .i64 px) := g2.cell 0
    have x5 : w2.cell? ⟨w.heap.size + 1 + 1, 1, none⟩ = some (.int .i64 py) := g2.cell 1
    have x6 : w2.cell? ⟨w.heap.size + 1 + 1 + 1, 0, none⟩ = some (.int .i64 qx) := g3.cell 0
    have x7 : w2.cell? ⟨w.heap.size + 1 + 1 + 1, 1, none⟩ = some (.int .i64 qy) := g3.cell 1
    have q0 : w.heap.size < w2.heap.size := g0.lt
    have q1 : w.heap.size + 1 < w2.heap.size := g1.lt
    have q2 : w.heap.size + 1 + 1 < w2.heap.size := g2.lt
    have q3 : w.heap.size + 1 + 1 + 1 < w2.heap.size := g3.lt
    clear hb2 hb3 CP S0
    have hq := fun x y u v W => eqPt x y u v W
    cases e1 : sameP fx fy ox oy with
    | true =>
      have hD2 : D = (0, 2) := HD.out.trans (if_neg (fun h => by unfold turnOk at h; rw [hP, e1] at h; simp at h))
      subst hD2
      clear HD
      go_wp2
      go_ret2
      exact ⟨rfl, B2.out⟩
    | false =>
    cases e2 : sameP px py ox oy with
    | true =>
      have hD2 : D = (0, 2) := HD.out.trans (if_neg (fun h => by unfold turnOk at h; rw [hP, e1, e2] at h; simp at h))
      subst hD2
      clear HD
      go_wp2
      go_ret2
      exact ⟨rfl, B2.out⟩
    | false =>
    cases e3 : sameP qx qy ox oy with
    | true =>
      have hD2 : D = (0, 2) := HD.out.trans (if_neg (fun h => by unfold turnOk at h; rw [hP, e1, e2, e3] at h; simp at h))
      subst hD2
      clear HD
      go_wp2
      go_ret2
      exact ⟨rfl, B2.out⟩
    | false =>
    have hD2 : D = (rturnV ox oy fx fy px py qx qy, 0) := HD.out.trans (if_pos (by unfold turnOk; rw [hP, e1, e2, e3]; rfl))
    subst hD2
    obtain ⟨V, hV⟩ : ∃ V, V = rturnV ox oy fx fy px py qx qy := ⟨_, rfl⟩
    have HV := Lib.hid hV
    clear hV
    have o1 := okPs_all hP (x := (ox, oy)) (by simp)
    have o2 := okPs_all hP (x := (fx, fy)) (by simp)
    have o3 := okPs_all hP (x := (px, py)) (by simp)
    have o4 := okPs_all hP (x := (qx, qy)) (by simp)
    simp only at o1 o2 o3 o4
    have C1 := Lib.hid (fun W => stepC ox oy fx fy W o1.1 o1.2 o2.1 o2.2)
    have C2 := Lib.hid (fun W => stepC ox oy px py W o1.1 o1.2 o3.1 o3.2)
    have C3 := Lib.hid (fun W => stepC ox oy qx qy W o1.1 o1.2 o4.1 o4.2)
    have FF : Hid (∀ W, Below w2.heap.size w2 W → W.cell? ⟨w.heap.size, 0, none⟩ = some (.int .i64 ox) ∧ W.cell? ⟨w.heap.size, 1, none⟩ = some (.int .i64 oy) ∧ W.cell? ⟨w.heap.size + 1, 0, none⟩ = some (.int .i64 fx) ∧ W.cell? ⟨w.heap.size + 1, 1, none⟩ = some (.int .i64 fy) ∧ W.cell? ⟨w.heap.size + 1 + 1, 0, none⟩ = some (.int .i64 px) ∧ W.cell? ⟨w.heap.size + 1 + 1, 1, none⟩ = some (.int .i64 py) ∧ W.cell? ⟨w.heap.size + 1 + 1 + 1, 0, none⟩ = some (.int .i64 qx) ∧ W.cell? ⟨w.heap.size + 1 + 1 + 1, 1, none⟩ = some (.int .i64 qy)) := fun W hb => ⟨(hb.cell (p := ⟨w.heap.size, 0, none⟩) q0).trans x0, (hb.cell (p := ⟨w.heap.size, 1, none⟩) q0).trans x1, (hb.cell (p := ⟨w.heap.size + 1, 0, none⟩) q1).trans x2, (hb.cell (p := ⟨w.heap.size + 1, 1, none⟩) q1).trans x3, (hb.cell (p := ⟨w.heap.size + 1 + 1, 0, none⟩) q2).trans x4, (hb.cell (p := ⟨w.heap.size + 1 + 1, 1, none⟩) q2).trans x5, (hb.cell (p := ⟨w.heap.size + 1 + 1 + 1, 0, none⟩) q3).trans x6, (hb.cell (p := ⟨w.heap.size + 1 + 1 + 1, 1, none⟩) q3).trans x7⟩
    have BD : Hid (Below w2.heap.size w2 w2.drew) := ⟨rfl, rfl, rfl, Nat.le_refl _, fun _ _ => rfl⟩
    go_wp2
    refine wp_region_news [.q, .q, .q, .q, .q, .q, .q, .q, .q, .mk 0, .mk 1, .mk 2, .st 0, .st 1, .st 2]
      [⟨10, 37, none, 25, [.int .i64 0, .int .i64 0], [.int .i64 (fx - ox), .int .i64 (fy - oy)], vP (fx - ox) (fy - oy)⟩, ⟨11, 40, none, 25, [.int .i64 0, .int .i64 0], [.int .i64 (px - ox), .int .i64 (py - oy)], vP (px - ox) (py - oy)⟩, ⟨12, 43, none, 25, [.int .i64 0, .int .i64 0], [.int .i64 (qx - ox), .int .i64 (qy - oy)], vP (qx - ox) (qy - oy)⟩] ?aH (by kernel_rfl) (by kernel_rfl) (by simp) (by simp) ?hq ?hv ?hA ?he
    case hq =>
      intro w3 h3
      obtain ⟨x0, x1, x2, x3, x4, x5, x6, x7⟩ := FF.out w3 h3
      have q0 := Nat.lt_of_lt_of_le q0 h3.size
      have q1 := Nat.lt_of_lt_of_le q1 h3.size
      have q2 := Nat.lt_of_lt_of_le q2 h3.size
      have q3 := Nat.lt_of_lt_of_le q3 h3.size
      have hxc := fun (x : Ext w3) => x.cell
      show wpQuiet _ _ _ _ [_, _, _, _, _, _, _, _, _] _
      repeat (go_big_quiet_step ((first | (go_at_call_of 48 (Value.agg #[Value.int .i64 fx, Value.int .i64 fy]); exact ext_call (C1.out _)) | (go_at_call_of 48 (Value.agg #[Value.int .i64 px, Value.int .i64 py]); exact ext_call (C2.out _)) | (go_at_call_of 48 (Value.agg #[Value.int .i64 qx, Value.int .i64 qy]); exact ext_call (C3.out _)))))
      refine wpQuiet_nil ?_
      rfl
    case hv => simp
    case hA =>
      refine ⟨fun x hx => ?_, fun x hx => ?_, fun x hx => ?_, fun x hx => ?_, fun x hx => ?_, fun x hx => ?_, trivial⟩ <;> (obtain rfl := Option.some.inj hx)
      · exact fun b W => by go_simp
      · exact fun b W => by go_simp
      · exact fun b W => by go_simp
      · exact stOk_agg rfl rfl (by kernel_rfl) rfl (by kernel_rfl)
      · exact stOk_agg rfl rfl (by kernel_rfl) rfl (by kernel_rfl)
      · exact stOk_agg rfl rfl (by kernel_rfl) rfl (by kernel_rfl)
    case he =>
      intro bs w3 hb3 hH hne
      obtain ⟨A, hA⟩ : ∃ A, A = bs 0 := ⟨_, rfl⟩
      obtain ⟨B, hBB⟩ : ∃ B, B = bs 1 := ⟨_, rfl⟩
      obtain ⟨C, hC⟩ : ∃ C, C = bs 2 := ⟨_, rfl⟩
      have G0 := hH 0 _ rfl
      have G1 := hH 1 _ rfl
      have G2 := hH 2 _ rfl
      have n01 := hne 0 1 (by simp) (by simp) (by simp)
      have n02 := hne 0 2 (by simp) (by simp) (by simp)
      have n12 := hne 1 2 (by simp) (by simp) (by simp)
      clear hH hne
      simp only [putN, Nat.zero_add, ← hA, ← hBB, ← hC, Act.put, List.setIfInBounds_toArray, List.set_cons_zero, List.set_cons_succ] at G0 G1 G2 n01 n02 n12 ⊢
      clear hA hBB hC
      have BB := Lib.hid (bvia B2.out hb3)
      have D1 := Lib.hid (fun W => partC (fx - ox) (fy - oy) (px - ox) (py - oy) W ⟨by omega, by omega⟩ ⟨by omega, by omega⟩ ⟨by omega, by omega⟩ ⟨by omega, by omega⟩)
      have D2 := Lib.hid (fun W => partC (fx - ox) (fy - oy) (qx - ox) (qy - oy) W ⟨by omega, by omega⟩ ⟨by omega, by omega⟩ ⟨by omega, by omega⟩ ⟨by omega, by omega⟩)
      have D3 := Lib.hid (fun W => rcrossC (px - ox) (py - oy) (qx - ox) (qy - oy) W ⟨by omega, by omega⟩ ⟨by omega, by omega⟩ ⟨by omega, by omega⟩ ⟨by omega, by omega⟩)
      have HV2 : Hid (V = if prt (fx - ox) (fy - oy) (px - ox) (py - oy) = prt (fx - ox) (fy - oy) (qx - ox) (qy - oy) then -sgn ((px - ox) * (qy - oy) - (py - oy) * (qx - ox)) else sgn (prt (fx - ox) (fy - oy) (px - ox) (py - oy) - prt (fx - ox) (fy - oy) (qx - ox) (qy - oy))) := HV.out
      have p0 : w3.cell? ⟨A, 0, none⟩ = some (.int .i64 (fx - ox)) := G0.1.cell 0
      have p1 : w3.cell? ⟨A, 1, none⟩ = some (.int .i64 (fy - oy)) := G0.1.cell 1
      have p2 : w3.cell? ⟨B, 0, none⟩ = some (.int .i64 (px - ox)) := G1.1.cell 0
      have p3 : w3.cell? ⟨B, 1, none⟩ = some (.int .i64 (py - oy)) := G1.1.cell 1
      have p4 : w3.cell? ⟨C, 0, none⟩ = some (.int .i64 (qx - ox)) := G2.1.cell 0
      have p5 : w3.cell? ⟨C, 1, none⟩ = some (.int .i64 (qy - oy)) := G2.1.cell 1
      have z0 := G0.1.lt
      have z1 := G1.1.lt
      have z2 := G2.1.lt
      clear HD G0 G1 G2 n01 n02 n12 FF BD C1 C2 C3 B2 B0 F0 x0 x1 x2 x3 x4 x5 x6 x7 q0 q1 q2 q3 hq e1 e2 e3 hP hb3
      generalize fx - ox = ax, fy - oy = ay, px - ox = bx, py - oy = by_, qx - ox = cx, qy - oy = cy at *
      clear o1 o2 o3 o4
      have FF : Hid (∀ W, Below w3.heap.size w3 W → W.cell? ⟨A, 0, none⟩ = some (.int .i64 ax) ∧ W.cell? ⟨A, 1, none⟩ = some (.int .i64 ay) ∧ W.cell? ⟨B, 0, none⟩ = some (.int .i64 bx) ∧ W.cell? ⟨B, 1, none⟩ = some (.int .i64 by_) ∧ W.cell? ⟨C, 0, none⟩ = some (.int .i64 cx) ∧ W.cell? ⟨C, 1, none⟩ = some (.int .i64 cy)) := fun W hb => ⟨(hb.cell (p := ⟨A, 0, none⟩) z0).trans p0, (hb.cell (p := ⟨A, 1, none⟩) z0).trans p1, (hb.cell (p := ⟨B, 0, none⟩) z1).trans p2, (hb.cell (p := ⟨B, 1, none⟩) z1).trans p3, (hb.cell (p := ⟨C, 0, none⟩) z2).trans p4, (hb.cell (p := ⟨C, 1, none⟩) z2).trans p5⟩
      obtain ⟨M, hM⟩ : ∃ M, M = prt ax ay bx by_ := ⟨_, rfl⟩
      obtain ⟨N, hN⟩ : ∃ N, N = prt ax ay cx cy := ⟨_, rfl⟩
      have m1 := prt_in ax ay bx by_
      have m2 := prt_in ax ay cx cy
      rw [← hM] at D1 HV2 m1
      rw [← hN] at D2 HV2 m2
      clear hM hN
      have wr : IntKind.i64.wrap (M - N) = M - N := IntWalk.i64_in _ (by omega)
      have ws : IntKind.i64.wrap (-sgn (bx * cy - by_ * cx)) = -sgn (bx * cy - by_ * cx) := IntWalk.i64_in _ (by have := sgn_in (bx * cy - by_ * cx); omega)
      by_cases hMN : M = N
      · have HV3 : Hid (V = -sgn (bx * cy - by_ * cx)) := HV2.out.trans (if_pos hMN)
        have hMN2 : (M == N) = true := beq_iff_eq.2 hMN
        have hMN3 : (M != N) = false := by simp [hMN]
        have HMN := Lib.hid hMN
        clear hMN HV2
        go_wp2
        have hxc := fun (x : Ext w3) => x.cell
        refine wp_region_ext (by kernel_rfl) (by kernel_rfl) ?_
        repeat (go_big_quiet_step ((first | (go_at_call_of 62 (Value.agg #[Value.int .i64 bx, Value.int .i64 by_]); exact ext_call (D1.out _)) | (go_at_call_of 62 (Value.agg #[Value.int .i64 cx, Value.int .i64 cy]); exact ext_call (D2.out _)))))
        refine wpQuiet_nil ?_
        intro w4 hw'
        have hb4 := ext_below hw'
        clear hw' hxc
        obtain ⟨p0, p1, p2, p3, p4, p5⟩ := FF.out w4 hb4
        go_wp2_with fail
        refine (D3.out _).mono ?_
        rintro e w5 ⟨rfl, hb5⟩
        go_wp2_with fail
        refine (signC _ _).mono ?_
        rintro e w6 ⟨rfl, rfl⟩
        rw [← HV3.out] at ws
        go_wp2
        go_ret2
        refine ⟨?_, bvia BB.out (bvia hb4 hb5)⟩
        show Ending.returned (.tuple #[.int .i64 (wrap64 (-sgn (bx * cy - by_ * cx))), .int .i64 0]) = .returned (.tuple #[.int .i64 (rturnV ox oy fx fy px py qx qy), .int .i64 0])
        rw [← IntWalk.i64_left, ← HV3.out, ws, HV.out]
      · have HV3 : Hid (V = sgn (M - N)) := HV2.out.trans (if_neg hMN)
        have hMN2 : (M == N) = false := beq_eq_false_iff_ne.2 hMN
        have hMN3 : (M != N) = true := by simp [hMN]
        clear HV2
        go_wp2
        have hxc := fun (x : Ext w3) => x.cell
        refine wp_region_ext (by kernel_rfl) (by kernel_rfl) ?_
        repeat (go_big_quiet_step ((first | (go_at_call_of 62 (Value.agg #[Value.int .i64 bx, Value.int .i64 by_]); exact ext_call (D1.out _)) | (go_at_call_of 62 (Value.agg #[Value.int .i64 cx, Value.int .i64 cy]); exact ext_call (D2.out _)))))
        refine wpQuiet_nil ?_
        intro w4 hw'
        have hb4 := ext_below hw'
        clear hw' hxc
        obtain ⟨p0, p1, p2, p3, p4, p5⟩ := FF.out w4 hb4
        have z0 := Nat.lt_of_lt_of_le z0 hb4.size
        have z1 := Nat.lt_of_lt_of_le z1 hb4.size
        have z2 := Nat.lt_of_lt_of_le z2 hb4.size
        go_wp2
        have hxc := fun (x : Ext w4) => x.cell
        refine wp_region_ext (by kernel_rfl) (by kernel_rfl) ?_
        repeat (go_big_quiet_step ((first | (go_at_call_of 62 (Value.agg #[Value.int .i64 bx, Value.int .i64 by_]); exact ext_call (D1.out _)) | (go_at_call_of 62 (Value.agg #[Value.int .i64 cx, Value.int .i64 cy]); exact ext_call (D2.out _)) | (go_at_call 57; exact ext_same (signC _ _)))))
        refine wpQuiet_nil ?_
        intro w5 hw'
        have hb5 := ext_below hw'
        clear hw' hxc
        go_wp2
        go_ret2
        refine ⟨?_, bvia BB.out (bvia hb4 hb5)⟩
        show Ending.returned (.tuple #[.int .i64 (sgn (M - N)), .int .i64 0]) = .returned (.tuple #[.int .i64 (rturnV ox oy fx fy px py qx qy), .int .i64 0])
        rw [← HV3.out, HV.out]
end Go.Proofs.Ytmghpaibdgkbfaa
/-
  Plain law of directions.
-/
namespace Go.Proofs.Ytmghpaibdgkbfaa
namespace Di
structure Stp where
  x : Int
  y : Int
deriving DecidableEq
theorem sq_nn (x : Int) : 0 ≤ x * x := by
  rcases Int.le_total 0 x with h | h
  · exact Int.mul_nonneg h h
  · have := Int.mul_nonneg (show 0 ≤ -x by omega) (show 0 ≤ -x by omega)
    rw [Int.neg_mul_neg] at this; exact this
theorem sq_pos {x : Int} (h : x ≠ 0) : 1 ≤ x * x := by
  have h0 := sq_nn x
  have h1 : x * x ≠ 0 := by
    intro e; rcases Int.mul_eq_zero.1 e with e | e <;> exact h e
  omega
def crs (s t : Stp) : Int := s.x * t.y - s.y * t.x
def dot (s t : Stp) : Int := s.x * t.x + s.y * t.y
def Nz (s : Stp) : Prop := s.x ≠ 0 ∨ s.y ≠ 0
def sgI (n : Int) : Int := if n < 0 then -1 else if 0 < n then 1 else 0
def half (f t : Stp) : Int := if 0 < crs f t ∨ (crs f t = 0 ∧ 0 < dot f t) then 0 else 1
def part (f t : Stp) : Int := if 0 < crs f t then 1 else if crs f t < 0 then 3 else if 0 < dot f t then 0 else 2
/-- the program's -/
def turnP (f a b : Stp) : Int := if sgI (half f a - half f b) ≠ 0 then sgI (half f a - half f b) else sgI (0 - crs a b)
/-- the reference's -/
def turnR (f a b : Stp) : Int := if part f a ≠ part f b then sgI (part f a - part f b) else -sgI (crs a b)
theorem ff_pos {f : Stp} (h : Nz f) : 0 < dot f f := by
  have h1 := sq_nn f.x
  have h2 := sq_nn f.y
  unfold dot
  rcases h with h | h
  · have := sq_pos h; omega
  · have := sq_pos h; omega
theorem pl1 (f a b : Stp) : dot f f * crs a b = dot f a * crs f b - crs f a * dot f b := by unfold dot crs; grind
theorem pl2 (f u v w : Stp) : crs f v * crs u w = crs f w * crs u v + crs f u * crs v w := by unfold crs; grind
theorem pl3 (f a : Stp) : dot f a * dot f a + crs f a * crs f a = dot f f * dot a a := by unfold dot crs; grind
theorem dot_ne {f a : Stp} (hf : Nz f) (ha : Nz a) (h : crs f a = 0) : dot f a ≠ 0 := by
  intro e
  have := pl3 f a
  rw [h, e] at this
  have := Int.mul_pos (ff_pos hf) (ff_pos ha)
  omega
theorem pos_of {a b : Int} (ha : 0 < a) (h : 0 < a * b) : 0 < b := by
  refine Int.not_le.1 fun h2 => ?_
  have := Int.mul_le_mul_of_nonneg_left h2 (show 0 ≤ a by omega)
  omega
theorem nn_of {a b : Int} (ha : 0 < a) (h : 0 ≤ a * b) : 0 ≤ b := by
  refine Int.not_lt.1 fun h2 => ?_
  have := Int.mul_le_mul_of_nonneg_left (show b ≤ -1 by omega) (show 0 ≤ a by omega)
  omega
theorem turn_eq {f a b : Stp} (hf : Nz f) (ha : Nz a) (hb : Nz b) : turnP f a b = turnR f a b := by
  have p1 := pl1 f a b
  have hff := ff_pos hf
  have na := fun h => dot_ne hf ha (a := a) h
  have nb := fun h => dot_ne hf hb (a := b) h
  have k1 : crs f a = 0 → 0 < dot f a → 0 < crs f b → 0 < crs a b := fun h1 h2 h3 => by
    refine pos_of hff ?_
    rw [p1, h1]; have := Int.mul_pos h2 h3; omega
  have k2 : 0 < crs f a → crs f b = 0 → 0 < dot f b → crs a b < 0 := fun h1 h2 h3 => by
    have : 0 < -crs a b := pos_of hff (by rw [Int.mul_neg, p1, h2]; have := Int.mul_pos h1 h3; omega)
    omega
  have k3 : crs f a = 0 → dot f a < 0 → crs f b < 0 → 0 < crs a b := fun h1 h2 h3 => by
    refine pos_of hff ?_
    rw [p1, h1]; have := Int.mul_pos (show 0 < -dot f a by omega) (show 0 < -crs f b by omega); rw [Int.neg_mul_neg] at this; omega
  have k4 : crs f a < 0 → crs f b = 0 → dot f b < 0 → crs a b < 0 := fun h1 h2 h3 => by
    have : 0 < -crs a b := pos_of hff (by rw [Int.mul_neg, p1, h2]; have := Int.mul_pos (show 0 < -crs f a by omega) (show 0 < -dot f b by omega); rw [Int.neg_mul_neg] at this; omega)
    omega
  unfold turnP turnR half part sgI
  generalize crs f a = x at *
  generalize crs f b = y at *
  generalize dot f a = u at *
  generalize dot f b = v at *
  generalize crs a b = z at *
  clear p1
  by_cases c1 : 0 < x <;> by_cases c2 : x < 0 <;> by_cases c3 : 0 < y <;> by_cases c4 : y < 0 <;> by_cases c5 : 0 < u <;> by_cases c6 : 0 < v <;> simp only [c1, c2, c3, c4, c5, c6, if_true, if_false, true_or, false_or, and_true, and_false, or_false] <;> grind
theorem turn_swap {f a b : Stp} : turnP f a b = - turnP f b a := by
  have e : crs b a = - crs a b := by unfold crs; grind
  unfold turnP
  rw [e]
  generalize half f a = x
  generalize half f b = y
  generalize crs a b = z
  unfold sgI
  grind
theorem half_self {f : Stp} (hf : Nz f) : half f f = 0 := by
  unfold half
  rw [if_pos]
  right
  exact ⟨by unfold crs; grind, ff_pos hf⟩
theorem half_01 (f a : Stp) : half f a = 0 ∨ half f a = 1 := by unfold half; split <;> simp
theorem turn_first {f q : Stp} (hf : Nz f) : turnP f f q ≤ 0 := by
  unfold turnP
  rw [half_self hf]
  by_cases h : half f q = 0
  · rw [h]
    have : 0 ≤ crs f q := by
      unfold half at h; split at h
      · omega
      · cases h
    unfold sgI
    grind
  · have : half f q = 1 := by rcases half_01 f q with g | g <;> omega
    rw [this]
    simp [sgI]
def ng (s : Stp) : Stp := ⟨-s.x, -s.y⟩
theorem crs_ng (s t : Stp) : crs (ng s) (ng t) = crs s t := by unfold crs ng; grind
theorem tri0 {f u v w : Stp} (hf : Nz f) (_ : Nz u) (_ : Nz v) (_ : Nz w) (u0 : half f u = 0) (v0 : half f v = 0) (w0 : half f w = 0) (h1 : 0 ≤ crs u v) (h2 : 0 ≤ crs v w) :
    0 ≤ crs u w ∧ (crs u w = 0 ↔ crs u v = 0 ∧ crs v w = 0) := by
  have hff := ff_pos hf
  have e2 := pl2 f u v w
  have f1 := pl1 f u v
  have f2 := pl1 f v w
  have f3 := pl1 f u w
  have hz : ∀ {s : Stp}, half f s = 0 → 0 < crs f s ∨ (crs f s = 0 ∧ 0 < dot f s) := fun {s} h => by
    unfold half at h; split at h
    · assumption
    · cases h
  have gu := hz u0
  have gv := hz v0
  have gw := hz w0
  clear u0 v0 w0 hz
  generalize crs f u = au at *
  generalize crs f v = av at *
  generalize crs f w = aw at *
  generalize dot f u = bu at *
  generalize dot f v = bv at *
  generalize dot f w = bw at *
  generalize crs u v = x at *
  generalize crs v w = y at *
  generalize crs u w = z at *
  generalize dot f f = d at *
  rcases gv with gv | ⟨gv, gv2⟩
  · have hau : 0 ≤ au := by omega
    have haw : 0 ≤ aw := by omega
    have n1 := Int.mul_nonneg haw h1
    have n2 := Int.mul_nonneg hau h2
    have naw : aw ≠ 0 := by
      intro e
      rw [e] at f2
      have h3 : 0 < bw := by omega
      have := Int.mul_pos gv h3
      have := Int.mul_nonneg (show 0 ≤ d by omega) h2
      rw [Int.mul_zero] at f2
      omega
    refine ⟨nn_of gv (by omega), fun hz => ?_, fun ⟨hx, hy⟩ => ?_⟩
    · rw [hz, Int.mul_zero] at e2 f3
      have e3 : aw * x = 0 := by omega
      have hx : x = 0 := by
        rcases Int.mul_eq_zero.1 e3 with h | h
        · exact absurd h naw
        · exact h
      refine ⟨hx, ?_⟩
      have e4 : au * y = 0 := by omega
      rcases Int.mul_eq_zero.1 e4 with h | h
      · exfalso
        rw [h] at f3
        have h3 : 0 < bu := by omega
        have := Int.mul_pos h3 (show 0 < aw by omega)
        omega
      · exact h
    · rw [hx, hy] at e2
      have : av * z = 0 := by omega
      rcases Int.mul_eq_zero.1 this with h | h
      · omega
      · exact h
  · rw [gv] at f1 f2
    have hau : au = 0 := by
      refine Classical.byContradiction fun h => ?_
      have h3 := Int.mul_pos (show 0 < au by omega) gv2
      have := Int.mul_nonneg (show 0 ≤ d by omega) h1
      omega
    have hbu : 0 < bu := by omega
    have haw : 0 ≤ aw := by omega
    rw [hau] at f1 f3
    have hx : x = 0 := by
      have : d * x = 0 := by omega
      rcases Int.mul_eq_zero.1 this with h | h
      · omega
      · exact h
    have n1 := Int.mul_nonneg (show 0 ≤ bu by omega) haw
    refine ⟨nn_of hff (by omega), fun hz => ⟨hx, ?_⟩, fun ⟨_, hy⟩ => ?_⟩
    · rw [hz] at f3
      have h0 : bu * aw = 0 := by omega
      have haw0 : aw = 0 := by
        rcases Int.mul_eq_zero.1 h0 with h | h
        · omega
        · exact h
      rw [haw0] at f2
      have : d * y = 0 := by rw [f2]; grind
      rcases Int.mul_eq_zero.1 this with h | h
      · omega
      · exact h
    · rw [hy] at f2
      have h0 : bv * aw = 0 := by omega
      have haw0 : aw = 0 := by
        rcases Int.mul_eq_zero.1 h0 with h | h
        · omega
        · exact h
      rw [haw0] at f3
      have : d * z = 0 := by rw [f3]; grind
      rcases Int.mul_eq_zero.1 this with h | h
      · omega
      · exact h
theorem half_ng {f u : Stp} (hf : Nz f) (hu : Nz u) (h : half f u = 1) : half f (ng u) = 0 := by
  have e1 : crs f (ng u) = - crs f u := by unfold crs ng; grind
  have e2 : dot f (ng u) = - dot f u := by unfold dot ng; grind
  have := dot_ne hf hu
  unfold half at h ⊢
  rw [e1, e2]
  split at h
  · cases h
  · rw [if_pos]; omega
theorem ng_nz {u : Stp} (h : Nz u) : Nz (ng u) := by unfold Nz ng at *; simp; omega
theorem tri {f u v w : Stp} (hf : Nz f) (hu : Nz u) (hv : Nz v) (hw : Nz w) (e1 : half f u = half f v) (e2 : half f v = half f w) (h1 : 0 ≤ crs u v) (h2 : 0 ≤ crs v w) :
    0 ≤ crs u w ∧ (crs u w = 0 ↔ crs u v = 0 ∧ crs v w = 0) := by
  rcases half_01 f w with g | g
  · exact tri0 hf hu hv hw (by omega) (by omega) g h1 h2
  · have := tri0 hf (ng_nz hu) (ng_nz hv) (ng_nz hw) (half_ng hf hu (by omega)) (half_ng hf hv (by omega)) (half_ng hf hw g) (by rw [crs_ng]; exact h1) (by rw [crs_ng]; exact h2)
    rw [crs_ng, crs_ng, crs_ng] at this
    exact this
/-- the order of directions is transitive -/
theorem turn_trans {f u v w : Stp} (hf : Nz f) (hu : Nz u) (hv : Nz v) (hw : Nz w) (h1 : turnP f u v ≤ 0) (h2 : turnP f v w ≤ 0) : turnP f u w ≤ 0 ∧ (turnP f u w = 0 ↔ turnP f u v = 0 ∧ turnP f v w = 0) := by
  have key := tri (f := f) (u := u) (v := v) (w := w) hf hu hv hw
  have a := half_01 f u
  have b := half_01 f v
  have c := half_01 f w
  unfold turnP sgI at *
  generalize half f u = x at *
  generalize half f v = y at *
  generalize half f w = z at *
  generalize crs u v = p at *
  generalize crs v w = q at *
  generalize crs u w = r at *
  rcases a with rfl | rfl <;> rcases b with rfl | rfl <;> rcases c with rfl | rfl <;> simp at h1 h2 key ⊢ <;> grind
end Di
end Go.Proofs.Ytmghpaibdgkbfaa
/-
  Plain law of Turn: the program's and the document's are one.
-/
namespace Go.Proofs.Ytmghpaibdgkbfaa
theorem cmpI_sgn (a b : Int) : cmpI a b = Di.sgI (a - b) := by unfold cmpI Di.sgI; split <;> split <;> (try split) <;> (try split) <;> omega
theorem sgn_sgI (n : Int) : sgn n = Di.sgI n := rfl
theorem hlf_di (x y u v : Int) : hlf x y u v = Di.half ⟨x, y⟩ ⟨u, v⟩ := rfl
theorem prt_di (x y u v : Int) : prt x y u v = Di.part ⟨x, y⟩ ⟨u, v⟩ := rfl
theorem orL_two (a b : Int) : orL [a, b] = if a ≠ 0 then a else b := by
  unfold orL orL orL
  by_cases h : a = 0
  · by_cases k : b = 0 <;> simp [h, k]
  · simp [h]
theorem turnV_di (ox oy fx fy px py qx qy : Int) : turnV ox oy fx fy px py qx qy = Di.turnP ⟨fx - ox, fy - oy⟩ ⟨px - ox, py - oy⟩ ⟨qx - ox, qy - oy⟩ := by
  unfold turnV Di.turnP
  rw [orL_two, cmpI_sgn, cmpI_sgn, hlf_di, hlf_di]
  rfl
theorem rturnV_di (ox oy fx fy px py qx qy : Int) : rturnV ox oy fx fy px py qx qy = Di.turnR ⟨fx - ox, fy - oy⟩ ⟨px - ox, py - oy⟩ ⟨qx - ox, qy - oy⟩ := by
  unfold rturnV Di.turnR
  rw [prt_di, prt_di, sgn_sgI, sgn_sgI]
  by_cases h : Di.part ⟨fx - ox, fy - oy⟩ ⟨px - ox, py - oy⟩ = Di.part ⟨fx - ox, fy - oy⟩ ⟨qx - ox, qy - oy⟩
  · rw [if_pos h, if_neg (fun h' => h' h)]; rfl
  · rw [if_neg h, if_pos h]
theorem sameP_nz {x y u v : Int} (h : sameP x y u v = false) : Di.Nz ⟨x - u, y - v⟩ := by
  unfold sameP at h
  simp only [Bool.and_eq_false_iff, beq_eq_false_iff_ne] at h
  unfold Di.Nz
  simp only
  omega
theorem turnOk_nz {ox oy fx fy px py qx qy : Int} (h : turnOk ox oy fx fy px py qx qy = true) : Di.Nz ⟨fx - ox, fy - oy⟩ ∧ Di.Nz ⟨px - ox, py - oy⟩ ∧ Di.Nz ⟨qx - ox, qy - oy⟩ := by
  unfold turnOk at h
  simp only [Bool.and_eq_true, Bool.not_eq_true'] at h
  exact ⟨sameP_nz h.2.1, sameP_nz h.2.2.1, sameP_nz h.2.2.2⟩
theorem turnR_eq (ox oy fx fy px py qx qy : Int) : turnR ox oy fx fy px py qx qy = rturnR ox oy fx fy px py qx qy := by
  unfold turnR rturnR
  cases h : turnOk ox oy fx fy px py qx qy with
  | false => rfl
  | true =>
    obtain ⟨h1, h2, h3⟩ := turnOk_nz h
    rw [if_pos rfl, if_pos rfl, turnV_di, rturnV_di, Di.turn_eq h1 h2 h3]
end Go.Proofs.Ytmghpaibdgkbfaa
/-
  The law GridsSides.
-/
namespace Go.Proofs.Ytmghpaibdgkbfaa
open Go.RowKit
set_option maxRecDepth 100000 in
set_option maxHeartbeats 4000000 in
theorem sidesP (ox oy px py qx qy rx ry : Int) (w : World) : Calls Try.prog 4 #[vF ox oy px py qx qy rx ry] w fun e w' => e = .returned (.bool true) ∧ Below w.heap.size w w' := by
  have C1 := Lib.hid (fun W => sideC px py qx qy rx ry W)
  have C2 := Lib.hid (fun W => rsideC px py qx qy rx ry W)
  have C3 := Lib.hid (fun W => turnC ox oy px py qx qy rx ry W)
  have C4 := Lib.hid (fun W => rturnC ox oy px py qx qy rx ry W)
  rw [← turnR_eq] at C4
  generalize sideR px py qx qy rx ry = D at *
  generalize turnR ox oy px py qx qy rx ry = E at *
  have G0 : Hid (Has (boxW w [([.int .i64 ox, .int .i64 oy, .int .i64 px, .int .i64 py, .int .i64 qx, .int .i64 qy, .int .i64 rx, .int .i64 ry], 27)]) (w.heap.size) 27 [.int .i64 ox, .int .i64 oy, .int .i64 px, .int .i64 py, .int .i64 qx, .int .i64 qy, .int .i64 rx, .int .i64 ry]) := box_has [([.int .i64 ox, .int .i64 oy, .int .i64 px, .int .i64 py, .int .i64 qx, .int .i64 qy, .int .i64 rx, .int .i64 ry], 27)] (w := w) (Below.refl _ _) (i := 0) rfl
  have B := Lib.hid (boxW_below [([.int .i64 ox, .int .i64 oy, .int .i64 px, .int .i64 py, .int .i64 qx, .int .i64 qy, .int .i64 rx, .int .i64 ry], 27)] w)
  obtain ⟨W1, hW1⟩ : ∃ W1, W1 = boxW w [([.int .i64 ox, .int .i64 oy, .int .i64 px, .int .i64 py, .int .i64 qx, .int .i64 qy, .int .i64 rx, .int .i64 ry], 27)] := ⟨_, rfl⟩
  rw [← hW1] at G0 B
  go_enter Try.func4, Try.ntmps4
  go_upto_region 1 with (fail)
  rw [show w.alloc (.cells #[.int .i64 ox, .int .i64 oy, .int .i64 px, .int .i64 py, .int .i64 qx, .int .i64 qy, .int .i64 rx, .int .i64 ry] 27) = W1 from hW1.symm]
  clear hW1
  have cG00 : W1.cell? ⟨w.heap.size, 0, none⟩ = some (.int .i64 ox) := G0.out.cell 0
  have cG01 : W1.cell? ⟨w.heap.size, 1, none⟩ = some (.int .i64 oy) := G0.out.cell 1
  have cG02 : W1.cell? ⟨w.heap.size, 2, none⟩ = some (.int .i64 px) := G0.out.cell 2
  have cG03 : W1.cell? ⟨w.heap.size, 3, none⟩ = some (.int .i64 py) := G0.out.cell 3
  have cG04 : W1.cell? ⟨w.heap.size, 4, none⟩ = some (.int .i64 qx) := G0.out.cell 4
  have cG05 : W1.cell? ⟨w.heap.size, 5, none⟩ = some (.int .i64 qy) := G0.out.cell 5
  have cG06 : W1.cell? ⟨w.heap.size, 6, none⟩ = some (.int .i64 rx) := G0.out.cell 6
  have cG07 : W1.cell? ⟨w.heap.size, 7, none⟩ = some (.int .i64 ry) := G0.out.cell 7
  go_wp2_with fail
  refine (C1.out _).mono ?_
  rintro e w1 ⟨rfl, hb1⟩
  clear cG00 cG01 cG02 cG03 cG04 cG05 cG06 cG07
  replace G0 := Lib.hid (G0.out.below hb1 G0.out.lt)
  replace B := Lib.hid (bvia B.out hb1)
  clear hb1
  have cG00 : w1.cell? ⟨w.heap.size, 0, none⟩ = some (.int .i64 ox) := G0.out.cell 0
  have cG01 : w1.cell? ⟨w.heap.size, 1, none⟩ = some (.int .i64 oy) := G0.out.cell 1
  have cG02 : w1.cell? ⟨w.heap.size, 2, none⟩ = some (.int .i64 px) := G0.out.cell 2
  have cG03 : w1.cell? ⟨w.heap.size, 3, none⟩ = some (.int .i64 py) := G0.out.cell 3
  have cG04 : w1.cell? ⟨w.heap.size, 4, none⟩ = some (.int .i64 qx) := G0.out.cell 4
  have cG05 : w1.cell? ⟨w.heap.size, 5, none⟩ = some (.int .i64 qy) := G0.out.cell 5
  have cG06 : w1.cell? ⟨w.heap.size, 6, none⟩ = some (.int .i64 rx) := G0.out.cell 6
  have cG07 : w1.cell? ⟨w.heap.size, 7, none⟩ = some (.int .i64 ry) := G0.out.cell 7
  go_wp2_with fail
  refine (C2.out _).mono ?_
  rintro e w2 ⟨rfl, hb2⟩
  clear cG00 cG01 cG02 cG03 cG04 cG05 cG06 cG07
  replace G0 := Lib.hid (G0.out.below hb2 G0.out.lt)
  replace B := Lib.hid (bvia B.out hb2)
  clear hb2
  have cG00 : w2.cell? ⟨w.heap.size, 0, none⟩ = some (.int .i64 ox) := G0.out.cell 0
  have cG01 : w2.cell? ⟨w.heap.size, 1, none⟩ = some (.int .i64 oy) := G0.out.cell 1
  have cG02 : w2.cell? ⟨w.heap.size, 2, none⟩ = some (.int .i64 px) := G0.out.cell 2
  have cG03 : w2.cell? ⟨w.heap.size, 3, none⟩ = some (.int .i64 py) := G0.out.cell 3
  have cG04 : w2.cell? ⟨w.heap.size, 4, none⟩ = some (.int .i64 qx) := G0.out.cell 4
  have cG05 : w2.cell? ⟨w.heap.size, 5, none⟩ = some (.int .i64 qy) := G0.out.cell 5
  have cG06 : w2.cell? ⟨w.heap.size, 6, none⟩ = some (.int .i64 rx) := G0.out.cell 6
  have cG07 : w2.cell? ⟨w.heap.size, 7, none⟩ = some (.int .i64 ry) := G0.out.cell 7
  go_wp2_with fail
  refine (C3.out _).mono ?_
  rintro e w3 ⟨rfl, hb3⟩
  clear cG00 cG01 cG02 cG03 cG04 cG05 cG06 cG07
  replace G0 := Lib.hid (G0.out.below hb3 G0.out.lt)
  replace B := Lib.hid (bvia B.out hb3)
  clear hb3
  have cG00 : w3.cell? ⟨w.heap.size, 0, none⟩ = some (.int .i64 ox) := G0.out.cell 0
  have cG01 : w3.cell? ⟨w.heap.size, 1, none⟩ = some (.int .i64 oy) := G0.out.cell 1
  have cG02 : w3.cell? ⟨w.heap.size, 2, none⟩ = some (.int .i64 px) := G0.out.cell 2
  have cG03 : w3.cell? ⟨w.heap.size, 3, none⟩ = some (.int .i64 py) := G0.out.cell 3
  have cG04 : w3.cell? ⟨w.heap.size, 4, none⟩ = some (.int .i64 qx) := G0.out.cell 4
  have cG05 : w3.cell? ⟨w.heap.size, 5, none⟩ = some (.int .i64 qy) := G0.out.cell 5
  have cG06 : w3.cell? ⟨w.heap.size, 6, none⟩ = some (.int .i64 rx) := G0.out.cell 6
  have cG07 : w3.cell? ⟨w.heap.size, 7, none⟩ = some (.int .i64 ry) := G0.out.cell 7
  go_wp2_with fail
  refine (C4.out _).mono ?_
  rintro e w4 ⟨rfl, hb4⟩
  clear cG00 cG01 cG02 cG03 cG04 cG05 cG06 cG07
  replace G0 := Lib.hid (G0.out.below hb4 G0.out.lt)
  replace B := Lib.hid (bvia B.out hb4)
  clear hb4
  go_wp2_with fail
  go_wp2_with fail
  refine (awakeC _).mono ?_
  rintro e w5 ⟨rfl, hb5⟩
  replace G0 := Lib.hid (G0.out.below hb5 G0.out.lt)
  replace B := Lib.hid (bvia B.out hb5)
  clear hb5
  go_wp2
  go_ret
  exact ⟨rfl, B.out⟩
end Go.Proofs.Ytmghpaibdgkbfaa
/-
  Plain law of GridsTurns.
-/
namespace Go.Proofs.Ytmghpaibdgkbfaa
theorem okPs4 (a b c d e f g h : Int) : okPs [(a, b), (c, d), (e, f), (g, h)] = (okP a b && (okP c d && (okP e f && okP g h))) := by
  unfold okPs; simp
theorem turnOk_swap (ox oy px py qx qy rx ry : Int) : turnOk ox oy px py rx ry qx qy = turnOk ox oy px py qx qy rx ry := by
  unfold turnOk
  rw [okPs4, okPs4]
  generalize okP ox oy = b1, okP px py = b2, okP qx qy = b3, okP rx ry = b4, sameP px py ox oy = b5, sameP qx qy ox oy = b6, sameP rx ry ox oy = b7
  revert b1 b2 b3 b4 b5 b6 b7
  decide
theorem turnOk_first {ox oy px py qx qy rx ry : Int} (h : turnOk ox oy px py qx qy rx ry = true) : turnOk ox oy px py px py qx qy = true := by
  unfold turnOk at *
  rw [okPs4] at *
  revert h
  generalize okP ox oy = b1, okP px py = b2, okP qx qy = b3, okP rx ry = b4, sameP px py ox oy = b5, sameP qx qy ox oy = b6, sameP rx ry ox oy = b7
  revert b1 b2 b3 b4 b5 b6 b7
  decide
theorem turnOk_y {ox oy px py qx qy rx ry : Int} (h : turnOk ox oy px py qx qy rx ry = true) (x y : Int) : turnOk ox oy px py qx qy x y = turnOk ox oy px py rx ry x y := by
  unfold turnOk at *
  rw [okPs4] at *
  rw [okPs4]
  revert h
  generalize okP ox oy = b1, okP px py = b2, okP qx qy = b3, okP rx ry = b4, sameP px py ox oy = b5, sameP qx qy ox oy = b6, sameP rx ry ox oy = b7, okP x y = b8, sameP x y ox oy = b9
  revert b1 b2 b3 b4 b5 b6 b7 b8 b9
  decide
theorem turnR_no {ox oy px py qx qy rx ry : Int} (h : turnOk ox oy px py qx qy rx ry = false) : turnR ox oy px py qx qy rx ry = (0, 2) := by unfold turnR; rw [if_neg (by rw [h]; decide)]
theorem turnR_yes {ox oy px py qx qy rx ry : Int} (h : turnOk ox oy px py qx qy rx ry = true) : turnR ox oy px py qx qy rx ry = (turnV ox oy px py qx qy rx ry, 0) := by unfold turnR; rw [if_pos h]
theorem sgI_in (n : Int) : -1 ≤ Di.sgI n ∧ Di.sgI n ≤ 1 := by unfold Di.sgI; split <;> (try split) <;> omega
theorem turnV_in (ox oy px py qx qy rx ry : Int) : -1 ≤ turnV ox oy px py qx qy rx ry ∧ turnV ox oy px py qx qy rx ry ≤ 1 := by
  rw [turnV_di]
  unfold Di.turnP
  split
  · exact sgI_in _
  · exact sgI_in _
theorem turns_law {ox oy px py qx qy rx ry : Int} (h : turnOk ox oy px py qx qy rx ry = true) : turnV ox oy px py qx qy rx ry = - turnV ox oy px py rx ry qx qy ∧ turnV ox oy px py px py qx qy ≤ 0 := by
  obtain ⟨h1, h2, h3⟩ := turnOk_nz h
  rw [turnV_di, turnV_di, turnV_di]
  exact ⟨Di.turn_swap, Di.turn_first h1⟩
theorem turns_trans {ox oy px py qx qy rx ry x y : Int} (h : turnOk ox oy px py qx qy rx ry = true) (hy : turnOk ox oy px py rx ry x y = true) (h1 : turnV ox oy px py qx qy rx ry ≤ 0) (h2 : turnV ox oy px py rx ry x y ≤ 0) :
    turnV ox oy px py qx qy x y ≤ 0 ∧ (turnV ox oy px py qx qy x y = 0 ↔ turnV ox oy px py qx qy rx ry = 0 ∧ turnV ox oy px py rx ry x y = 0) := by
  obtain ⟨n1, n2, n3⟩ := turnOk_nz h
  obtain ⟨_, _, n4⟩ := turnOk_nz hy
  rw [turnV_di] at *
  rw [turnV_di] at *
  rw [turnV_di] at *
  exact Di.turn_trans n1 n2 n3 n4 h1 h2
end Go.Proofs.Ytmghpaibdgkbfaa
