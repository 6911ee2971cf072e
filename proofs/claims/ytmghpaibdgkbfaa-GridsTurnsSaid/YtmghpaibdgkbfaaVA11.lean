/-
  The law GridsTurns.
-/
import Derived.Test.YtmghpaibdgkbfaaVA9
import Derived.Test.YtmghpaibdgkbfaaVA10
import Derived.Deep.CutRange
namespace Go.Proofs.Ytmghpaibdgkbfaa
open Go.RowKit
set_option maxRecDepth 100000 in
set_option maxHeartbeats 8000000 in
theorem turnsP (ox oy px py qx qy rx ry yx yy : Int) (w : World) : Calls Try.prog 7 #[vF ox oy px py qx qy rx ry, vP yx yy] w fun e w' => e = .returned (.bool true) ∧ Below w.heap.size w w' := by
  have C1 := Lib.hid (fun W => turnC ox oy px py qx qy rx ry W)
  have C2 := Lib.hid (fun W => turnC ox oy px py rx ry qx qy W)
  have C3 := Lib.hid (fun W => turnC ox oy px py px py qx qy W)
  have C4 := Lib.hid (fun W => turnC ox oy px py rx ry yx yy W)
  have C5 := Lib.hid (fun W => turnC ox oy px py qx qy yx yy W)
  cases h1 : turnOk ox oy px py qx qy rx ry with
  | false =>
    rw [turnR_no h1] at C1
    rw [turnR_no (by rw [turnOk_swap]; exact h1)] at C2
    clear h1 C3 C4 C5
    have G0 : Hid (Has (boxW w [([.int .i64 ox, .int .i64 oy, .int .i64 px, .int .i64 py, .int .i64 qx, .int .i64 qy, .int .i64 rx, .int .i64 ry], 27), ([.int .i64 yx, .int .i64 yy], 25)]) (w.heap.size) 27 [.int .i64 ox, .int .i64 oy, .int .i64 px, .int .i64 py, .int .i64 qx, .int .i64 qy, .int .i64 rx, .int .i64 ry]) := box_has [([.int .i64 ox, .int .i64 oy, .int .i64 px, .int .i64 py, .int .i64 qx, .int .i64 qy, .int .i64 rx, .int .i64 ry], 27), ([.int .i64 yx, .int .i64 yy], 25)] (w := w) (Below.refl _ _) (i := 0) rfl
    have G1 : Hid (Has (boxW w [([.int .i64 ox, .int .i64 oy, .int .i64 px, .int .i64 py, .int .i64 qx, .int .i64 qy, .int .i64 rx, .int .i64 ry], 27), ([.int .i64 yx, .int .i64 yy], 25)]) (w.heap.size + 1) 25 [.int .i64 yx, .int .i64 yy]) := box_has [([.int .i64 ox, .int .i64 oy, .int .i64 px, .int .i64 py, .int .i64 qx, .int .i64 qy, .int .i64 rx, .int .i64 ry], 27), ([.int .i64 yx, .int .i64 yy], 25)] (w := w) (Below.refl _ _) (i := 1) rfl
    have B := Lib.hid (boxW_below [([.int .i64 ox, .int .i64 oy, .int .i64 px, .int .i64 py, .int .i64 qx, .int .i64 qy, .int .i64 rx, .int .i64 ry], 27), ([.int .i64 yx, .int .i64 yy], 25)] w)
    obtain ⟨W1, hW1⟩ : ∃ W1, W1 = boxW w [([.int .i64 ox, .int .i64 oy, .int .i64 px, .int .i64 py, .int .i64 qx, .int .i64 qy, .int .i64 rx, .int .i64 ry], 27), ([.int .i64 yx, .int .i64 yy], 25)] := ⟨_, rfl⟩
    rw [← hW1] at G0 G1 B
    go_enter Try.func7, Try.ntmps7
    go_upto_region 1 with (fail)
    rw [show (w.alloc (.cells #[.int .i64 ox, .int .i64 oy, .int .i64 px, .int .i64 py, .int .i64 qx, .int .i64 qy, .int .i64 rx, .int .i64 ry] 27)).alloc (.cells #[.int .i64 yx, .int .i64 yy] 25) = W1 from hW1.symm]
    clear hW1
    have cG00 : W1.cell? ⟨w.heap.size, 0, none⟩ = some (.int .i64 ox) := G0.out.cell 0
    have cG01 : W1.cell? ⟨w.heap.size, 1, none⟩ = some (.int .i64 oy) := G0.out.cell 1
    have cG02 : W1.cell? ⟨w.heap.size, 2, none⟩ = some (.int .i64 px) := G0.out.cell 2
    have cG03 : W1.cell? ⟨w.heap.size, 3, none⟩ = some (.int .i64 py) := G0.out.cell 3
    have cG04 : W1.cell? ⟨w.heap.size, 4, none⟩ = some (.int .i64 qx) := G0.out.cell 4
    have cG05 : W1.cell? ⟨w.heap.size, 5, none⟩ = some (.int .i64 qy) := G0.out.cell 5
    have cG06 : W1.cell? ⟨w.heap.size, 6, none⟩ = some (.int .i64 rx) := G0.out.cell 6
    have cG07 : W1.cell? ⟨w.heap.size, 7, none⟩ = some (.int .i64 ry) := G0.out.cell 7
    have cG10 : W1.cell? ⟨w.heap.size + 1, 0, none⟩ = some (.int .i64 yx) := G1.out.cell 0
    have cG11 : W1.cell? ⟨w.heap.size + 1, 1, none⟩ = some (.int .i64 yy) := G1.out.cell 1
    go_wp2_with fail
    refine (C1.out _).mono ?_
    rintro e w1 ⟨rfl, hb1⟩
    clear cG00 cG01 cG02 cG03 cG04 cG05 cG06 cG07 cG10 cG11
    replace G0 := Lib.hid (G0.out.below hb1 G0.out.lt)
    replace G1 := Lib.hid (G1.out.below hb1 G1.out.lt)
    replace B := Lib.hid (bvia B.out hb1)
    clear hb1
    have cG00 : w1.cell? ⟨w.heap.size, 0, none⟩ = some (.int .i64 ox) := G0.out.cell 0
    have cG01 : w1.cell? ⟨w.heap.size, 1, none⟩ = some (.int .i64 oy) := G0.out.cell 1
    have cG02 : w1.cell? ⟨w.heap.size, 2, none⟩ = some (.int .i64 px) := G0.out.cell 2
    have cG03 : w1.cell? ⟨w.heap.size, 3, none⟩ = some (.int .i64 py) := G0.out.cell 3
    have cG04 : w1.cell? ⟨w.heap.size, 4, none⟩ = some (.int .i64 qx) := G0.out.cell 4
    have cG05 : w1.cell? ⟨w.heap.size, 5, none⟩ = some (.int .i64 qy) := G0.out.cell 5
    have cG06 : w1.cell? ⟨w.heap.size, 6, none⟩ = some (.int .i64 rx) := G0.out.cell 6
    have cG07 : w1.cell? ⟨w.heap.size, 7, none⟩ = some (.int .i64 ry) := G0.out.cell 7
    have cG10 : w1.cell? ⟨w.heap.size + 1, 0, none⟩ = some (.int .i64 yx) := G1.out.cell 0
    have cG11 : w1.cell? ⟨w.heap.size + 1, 1, none⟩ = some (.int .i64 yy) := G1.out.cell 1
    go_wp2_with fail
    refine (C2.out _).mono ?_
    rintro e w2 ⟨rfl, hb2⟩
    clear cG00 cG01 cG02 cG03 cG04 cG05 cG06 cG07 cG10 cG11
    replace G0 := Lib.hid (G0.out.below hb2 G0.out.lt)
    replace G1 := Lib.hid (G1.out.below hb2 G1.out.lt)
    replace B := Lib.hid (bvia B.out hb2)
    clear hb2
    go_wp2_with fail
    go_wp2_with fail
    refine (awakeC _).mono ?_
    rintro e w3 ⟨rfl, hb3⟩
    replace G0 := Lib.hid (G0.out.below hb3 G0.out.lt)
    replace G1 := Lib.hid (G1.out.below hb3 G1.out.lt)
    replace B := Lib.hid (bvia B.out hb3)
    clear hb3
    go_wp2
    go_ret
    exact ⟨rfl, B.out⟩
  | true =>
    rw [turnR_yes h1] at C1
    rw [turnR_yes (by rw [turnOk_swap]; exact h1)] at C2
    rw [turnR_yes (turnOk_first h1)] at C3
    obtain ⟨l1, l2⟩ := turns_law h1
    have l3 := turnV_in ox oy px py rx ry qx qy
    have LT := Lib.hid (fun (hy : turnOk ox oy px py rx ry yx yy = true) => turns_trans h1 hy)
    have HY := Lib.hid (turnOk_y h1 yx yy)
    generalize turnV ox oy px py px py qx qy = F at *
    generalize hA : turnV ox oy px py qx qy rx ry = A at *
    generalize turnV ox oy px py rx ry qx qy = Bv at *
    clear h1 hA
    have i1 : IntKind.i64.wrap (-Bv) = -Bv := IntWalk.i64_in _ (by omega)
    have j1 : (A != -Bv) = false := by simp [l1]
    have j2 : decide (0 < F) = false := decide_eq_false (by omega)
    have HL1 := Lib.hid l1
    clear l1
    cases h2 : turnOk ox oy px py rx ry yx yy with
    | false =>
      rw [turnR_no h2] at C4
      rw [turnR_no (by rw [HY.out]; exact h2)] at C5
      clear h2 LT HY
      have G0 : Hid (Has (boxW w [([.int .i64 ox, .int .i64 oy, .int .i64 px, .int .i64 py, .int .i64 qx, .int .i64 qy, .int .i64 rx, .int .i64 ry], 27), ([.int .i64 yx, .int .i64 yy], 25)]) (w.heap.size) 27 [.int .i64 ox, .int .i64 oy, .int .i64 px, .int .i64 py, .int .i64 qx, .int .i64 qy, .int .i64 rx, .int .i64 ry]) := box_has [([.int .i64 ox, .int .i64 oy, .int .i64 px, .int .i64 py, .int .i64 qx, .int .i64 qy, .int .i64 rx, .int .i64 ry], 27), ([.int .i64 yx, .int .i64 yy], 25)] (w := w) (Below.refl _ _) (i := 0) rfl
      have G1 : Hid (Has (boxW w [([.int .i64 ox, .int .i64 oy, .int .i64 px, .int .i64 py, .int .i64 qx, .int .i64 qy, .int .i64 rx, .int .i64 ry], 27), ([.int .i64 yx, .int .i64 yy], 25)]) (w.heap.size + 1) 25 [.int .i64 yx, .int .i64 yy]) := box_has [([.int .i64 ox, .int .i64 oy, .int .i64 px, .int .i64 py, .int .i64 qx, .int .i64 qy, .int .i64 rx, .int .i64 ry], 27), ([.int .i64 yx, .int .i64 yy], 25)] (w := w) (Below.refl _ _) (i := 1) rfl
      have B := Lib.hid (boxW_below [([.int .i64 ox, .int .i64 oy, .int .i64 px, .int .i64 py, .int .i64 qx, .int .i64 qy, .int .i64 rx, .int .i64 ry], 27), ([.int .i64 yx, .int .i64 yy], 25)] w)
      obtain ⟨W1, hW1⟩ : ∃ W1, W1 = boxW w [([.int .i64 ox, .int .i64 oy, .int .i64 px, .int .i64 py, .int .i64 qx, .int .i64 qy, .int .i64 rx, .int .i64 ry], 27), ([.int .i64 yx, .int .i64 yy], 25)] := ⟨_, rfl⟩
      rw [← hW1] at G0 G1 B
      go_enter Try.func7, Try.ntmps7
      go_upto_region 1 with (fail)
      rw [show (w.alloc (.cells #[.int .i64 ox, .int .i64 oy, .int .i64 px, .int .i64 py, .int .i64 qx, .int .i64 qy, .int .i64 rx, .int .i64 ry] 27)).alloc (.cells #[.int .i64 yx, .int .i64 yy] 25) = W1 from hW1.symm]
      clear hW1
      have cG00 : W1.cell? ⟨w.heap.size, 0, none⟩ = some (.int .i64 ox) := G0.out.cell 0
      have cG01 : W1.cell? ⟨w.heap.size, 1, none⟩ = some (.int .i64 oy) := G0.out.cell 1
      have cG02 : W1.cell? ⟨w.heap.size, 2, none⟩ = some (.int .i64 px) := G0.out.cell 2
      have cG03 : W1.cell? ⟨w.heap.size, 3, none⟩ = some (.int .i64 py) := G0.out.cell 3
      have cG04 : W1.cell? ⟨w.heap.size, 4, none⟩ = some (.int .i64 qx) := G0.out.cell 4
      have cG05 : W1.cell? ⟨w.heap.size, 5, none⟩ = some (.int .i64 qy) := G0.out.cell 5
      have cG06 : W1.cell? ⟨w.heap.size, 6, none⟩ = some (.int .i64 rx) := G0.out.cell 6
      have cG07 : W1.cell? ⟨w.heap.size, 7, none⟩ = some (.int .i64 ry) := G0.out.cell 7
      have cG10 : W1.cell? ⟨w.heap.size + 1, 0, none⟩ = some (.int .i64 yx) := G1.out.cell 0
      have cG11 : W1.cell? ⟨w.heap.size + 1, 1, none⟩ = some (.int .i64 yy) := G1.out.cell 1
      go_wp2_with fail
      refine (C1.out _).mono ?_
      rintro e w1 ⟨rfl, hb1⟩
      clear cG00 cG01 cG02 cG03 cG04 cG05 cG06 cG07 cG10 cG11
      replace G0 := Lib.hid (G0.out.below hb1 G0.out.lt)
      replace G1 := Lib.hid (G1.out.below hb1 G1.out.lt)
      replace B := Lib.hid (bvia B.out hb1)
      clear hb1
      have cG00 : w1.cell? ⟨w.heap.size, 0, none⟩ = some (.int .i64 ox) := G0.out.cell 0
      have cG01 : w1.cell? ⟨w.heap.size, 1, none⟩ = some (.int .i64 oy) := G0.out.cell 1
      have cG02 : w1.cell? ⟨w.heap.size, 2, none⟩ = some (.int .i64 px) := G0.out.cell 2
      have cG03 : w1.cell? ⟨w.heap.size, 3, none⟩ = some (.int .i64 py) := G0.out.cell 3
      have cG04 : w1.cell? ⟨w.heap.size, 4, none⟩ = some (.int .i64 qx) := G0.out.cell 4
      have cG05 : w1.cell? ⟨w.heap.size, 5, none⟩ = some (.int .i64 qy) := G0.out.cell 5
      have cG06 : w1.cell? ⟨w.heap.size, 6, none⟩ = some (.int .i64 rx) := G0.out.cell 6
      have cG07 : w1.cell? ⟨w.heap.size, 7, none⟩ = some (.int .i64 ry) := G0.out.cell 7
      have cG10 : w1.cell? ⟨w.heap.size + 1, 0, none⟩ = some (.int .i64 yx) := G1.out.cell 0
      have cG11 : w1.cell? ⟨w.heap.size + 1, 1, none⟩ = some (.int .i64 yy) := G1.out.cell 1
      go_wp2_with fail
      refine (C2.out _).mono ?_
      rintro e w2 ⟨rfl, hb2⟩
      clear cG00 cG01 cG02 cG03 cG04 cG05 cG06 cG07 cG10 cG11
      replace G0 := Lib.hid (G0.out.below hb2 G0.out.lt)
      replace G1 := Lib.hid (G1.out.below hb2 G1.out.lt)
      replace B := Lib.hid (bvia B.out hb2)
      clear hb2
      have cG00 : w2.cell? ⟨w.heap.size, 0, none⟩ = some (.int .i64 ox) := G0.out.cell 0
      have cG01 : w2.cell? ⟨w.heap.size, 1, none⟩ = some (.int .i64 oy) := G0.out.cell 1
      have cG02 : w2.cell? ⟨w.heap.size, 2, none⟩ = some (.int .i64 px) := G0.out.cell 2
      have cG03 : w2.cell? ⟨w.heap.size, 3, none⟩ = some (.int .i64 py) := G0.out.cell 3
      have cG04 : w2.cell? ⟨w.heap.size, 4, none⟩ = some (.int .i64 qx) := G0.out.cell 4
      have cG05 : w2.cell? ⟨w.heap.size, 5, none⟩ = some (.int .i64 qy) := G0.out.cell 5
      have cG06 : w2.cell? ⟨w.heap.size, 6, none⟩ = some (.int .i64 rx) := G0.out.cell 6
      have cG07 : w2.cell? ⟨w.heap.size, 7, none⟩ = some (.int .i64 ry) := G0.out.cell 7
      have cG10 : w2.cell? ⟨w.heap.size + 1, 0, none⟩ = some (.int .i64 yx) := G1.out.cell 0
      have cG11 : w2.cell? ⟨w.heap.size + 1, 1, none⟩ = some (.int .i64 yy) := G1.out.cell 1
      go_wp2_with fail
      refine (C3.out _).mono ?_
      rintro e w3 ⟨rfl, hb3⟩
      clear cG00 cG01 cG02 cG03 cG04 cG05 cG06 cG07 cG10 cG11
      replace G0 := Lib.hid (G0.out.below hb3 G0.out.lt)
      replace G1 := Lib.hid (G1.out.below hb3 G1.out.lt)
      replace B := Lib.hid (bvia B.out hb3)
      clear hb3
      have cG00 : w3.cell? ⟨w.heap.size, 0, none⟩ = some (.int .i64 ox) := G0.out.cell 0
      have cG01 : w3.cell? ⟨w.heap.size, 1, none⟩ = some (.int .i64 oy) := G0.out.cell 1
      have cG02 : w3.cell? ⟨w.heap.size, 2, none⟩ = some (.int .i64 px) := G0.out.cell 2
      have cG03 : w3.cell? ⟨w.heap.size, 3, none⟩ = some (.int .i64 py) := G0.out.cell 3
      have cG04 : w3.cell? ⟨w.heap.size, 4, none⟩ = some (.int .i64 qx) := G0.out.cell 4
      have cG05 : w3.cell? ⟨w.heap.size, 5, none⟩ = some (.int .i64 qy) := G0.out.cell 5
      have cG06 : w3.cell? ⟨w.heap.size, 6, none⟩ = some (.int .i64 rx) := G0.out.cell 6
      have cG07 : w3.cell? ⟨w.heap.size, 7, none⟩ = some (.int .i64 ry) := G0.out.cell 7
      have cG10 : w3.cell? ⟨w.heap.size + 1, 0, none⟩ = some (.int .i64 yx) := G1.out.cell 0
      have cG11 : w3.cell? ⟨w.heap.size + 1, 1, none⟩ = some (.int .i64 yy) := G1.out.cell 1
      go_wp2_with fail
      refine (C4.out _).mono ?_
      rintro e w4 ⟨rfl, hb4⟩
      clear cG00 cG01 cG02 cG03 cG04 cG05 cG06 cG07 cG10 cG11
      replace G0 := Lib.hid (G0.out.below hb4 G0.out.lt)
      replace G1 := Lib.hid (G1.out.below hb4 G1.out.lt)
      replace B := Lib.hid (bvia B.out hb4)
      clear hb4
      have cG00 : w4.cell? ⟨w.heap.size, 0, none⟩ = some (.int .i64 ox) := G0.out.cell 0
      have cG01 : w4.cell? ⟨w.heap.size, 1, none⟩ = some (.int .i64 oy) := G0.out.cell 1
      have cG02 : w4.cell? ⟨w.heap.size, 2, none⟩ = some (.int .i64 px) := G0.out.cell 2
      have cG03 : w4.cell? ⟨w.heap.size, 3, none⟩ = some (.int .i64 py) := G0.out.cell 3
      have cG04 : w4.cell? ⟨w.heap.size, 4, none⟩ = some (.int .i64 qx) := G0.out.cell 4
      have cG05 : w4.cell? ⟨w.heap.size, 5, none⟩ = some (.int .i64 qy) := G0.out.cell 5
      have cG06 : w4.cell? ⟨w.heap.size, 6, none⟩ = some (.int .i64 rx) := G0.out.cell 6
      have cG07 : w4.cell? ⟨w.heap.size, 7, none⟩ = some (.int .i64 ry) := G0.out.cell 7
      have cG10 : w4.cell? ⟨w.heap.size + 1, 0, none⟩ = some (.int .i64 yx) := G1.out.cell 0
      have cG11 : w4.cell? ⟨w.heap.size + 1, 1, none⟩ = some (.int .i64 yy) := G1.out.cell 1
      go_wp2_with fail
      refine (C5.out _).mono ?_
      rintro e w5 ⟨rfl, hb5⟩
      clear cG00 cG01 cG02 cG03 cG04 cG05 cG06 cG07 cG10 cG11
      replace G0 := Lib.hid (G0.out.below hb5 G0.out.lt)
      replace G1 := Lib.hid (G1.out.below hb5 G1.out.lt)
      replace B := Lib.hid (bvia B.out hb5)
      clear hb5
      go_wp2_with fail
      go_wp2_with fail
      refine (awakeC _).mono ?_
      rintro e w6 ⟨rfl, hb6⟩
      replace G0 := Lib.hid (G0.out.below hb6 G0.out.lt)
      replace G1 := Lib.hid (G1.out.below hb6 G1.out.lt)
      replace B := Lib.hid (bvia B.out hb6)
      clear hb6
      go_wp2
      go_ret
      exact ⟨rfl, B.out⟩
    | true =>
      rw [turnR_yes h2] at C4
      rw [turnR_yes (by rw [HY.out]; exact h2)] at C5
      have LL := Lib.hid (LT.out h2)
      clear h2 LT HY
      generalize turnV ox oy px py rx ry yx yy = C at *
      generalize turnV ox oy px py qx qy yx yy = D at *
      rcases Int.lt_or_le 0 A with g1 | g1
      · have d1 : decide (0 < A) = true := decide_eq_true g1
        clear LL
        have G0 : Hid (Has (boxW w [([.int .i64 ox, .int .i64 oy, .int .i64 px, .int .i64 py, .int .i64 qx, .int .i64 qy, .int .i64 rx, .int .i64 ry], 27), ([.int .i64 yx, .int .i64 yy], 25)]) (w.heap.size) 27 [.int .i64 ox, .int .i64 oy, .int .i64 px, .int .i64 py, .int .i64 qx, .int .i64 qy, .int .i64 rx, .int .i64 ry]) := box_has [([.int .i64 ox, .int .i64 oy, .int .i64 px, .int .i64 py, .int .i64 qx, .int .i64 qy, .int .i64 rx, .int .i64 ry], 27), ([.int .i64 yx, .int .i64 yy], 25)] (w := w) (Below.refl _ _) (i := 0) rfl
        have G1 : Hid (Has (boxW w [([.int .i64 ox, .int .i64 oy, .int .i64 px, .int .i64 py, .int .i64 qx, .int .i64 qy, .int .i64 rx, .int .i64 ry], 27), ([.int .i64 yx, .int .i64 yy], 25)]) (w.heap.size + 1) 25 [.int .i64 yx, .int .i64 yy]) := box_has [([.int .i64 ox, .int .i64 oy, .int .i64 px, .int .i64 py, .int .i64 qx, .int .i64 qy, .int .i64 rx, .int .i64 ry], 27), ([.int .i64 yx, .int .i64 yy], 25)] (w := w) (Below.refl _ _) (i := 1) rfl
        have B := Lib.hid (boxW_below [([.int .i64 ox, .int .i64 oy, .int .i64 px, .int .i64 py, .int .i64 qx, .int .i64 qy, .int .i64 rx, .int .i64 ry], 27), ([.int .i64 yx, .int .i64 yy], 25)] w)
        obtain ⟨W1, hW1⟩ : ∃ W1, W1 = boxW w [([.int .i64 ox, .int .i64 oy, .int .i64 px, .int .i64 py, .int .i64 qx, .int .i64 qy, .int .i64 rx, .int .i64 ry], 27), ([.int .i64 yx, .int .i64 yy], 25)] := ⟨_, rfl⟩
        rw [← hW1] at G0 G1 B
        go_enter Try.func7, Try.ntmps7
        go_upto_region 1 with (fail)
        rw [show (w.alloc (.cells #[.int .i64 ox, .int .i64 oy, .int .i64 px, .int .i64 py, .int .i64 qx, .int .i64 qy, .int .i64 rx, .int .i64 ry] 27)).alloc (.cells #[.int .i64 yx, .int .i64 yy] 25) = W1 from hW1.symm]
        clear hW1
        have cG00 : W1.cell? ⟨w.heap.size, 0, none⟩ = some (.int .i64 ox) := G0.out.cell 0
        have cG01 : W1.cell? ⟨w.heap.size, 1, none⟩ = some (.int .i64 oy) := G0.out.cell 1
        have cG02 : W1.cell? ⟨w.heap.size, 2, none⟩ = some (.int .i64 px) := G0.out.cell 2
        have cG03 : W1.cell? ⟨w.heap.size, 3, none⟩ = some (.int .i64 py) := G0.out.cell 3
        have cG04 : W1.cell? ⟨w.heap.size, 4, none⟩ = some (.int .i64 qx) := G0.out.cell 4
        have cG05 : W1.cell? ⟨w.heap.size, 5, none⟩ = some (.int .i64 qy) := G0.out.cell 5
        have cG06 : W1.cell? ⟨w.heap.size, 6, none⟩ = some (.int .i64 rx) := G0.out.cell 6
        have cG07 : W1.cell? ⟨w.heap.size, 7, none⟩ = some (.int .i64 ry) := G0.out.cell 7
        have cG10 : W1.cell? ⟨w.heap.size + 1, 0, none⟩ = some (.int .i64 yx) := G1.out.cell 0
        have cG11 : W1.cell? ⟨w.heap.size + 1, 1, none⟩ = some (.int .i64 yy) := G1.out.cell 1
        go_wp2_with fail
        refine (C1.out _).mono ?_
        rintro e w1 ⟨rfl, hb1⟩
        clear cG00 cG01 cG02 cG03 cG04 cG05 cG06 cG07 cG10 cG11
        replace G0 := Lib.hid (G0.out.below hb1 G0.out.lt)
        replace G1 := Lib.hid (G1.out.below hb1 G1.out.lt)
        replace B := Lib.hid (bvia B.out hb1)
        clear hb1
        have cG00 : w1.cell? ⟨w.heap.size, 0, none⟩ = some (.int .i64 ox) := G0.out.cell 0
        have cG01 : w1.cell? ⟨w.heap.size, 1, none⟩ = some (.int .i64 oy) := G0.out.cell 1
        have cG02 : w1.cell? ⟨w.heap.size, 2, none⟩ = some (.int .i64 px) := G0.out.cell 2
        have cG03 : w1.cell? ⟨w.heap.size, 3, none⟩ = some (.int .i64 py) := G0.out.cell 3
        have cG04 : w1.cell? ⟨w.heap.size, 4, none⟩ = some (.int .i64 qx) := G0.out.cell 4
        have cG05 : w1.cell? ⟨w.heap.size, 5, none⟩ = some (.int .i64 qy) := G0.out.cell 5
        have cG06 : w1.cell? ⟨w.heap.size, 6, none⟩ = some (.int .i64 rx) := G0.out.cell 6
        have cG07 : w1.cell? ⟨w.heap.size, 7, none⟩ = some (.int .i64 ry) := G0.out.cell 7
        have cG10 : w1.cell? ⟨w.heap.size + 1, 0, none⟩ = some (.int .i64 yx) := G1.out.cell 0
        have cG11 : w1.cell? ⟨w.heap.size + 1, 1, none⟩ = some (.int .i64 yy) := G1.out.cell 1
        go_wp2_with fail
        refine (C2.out _).mono ?_
        rintro e w2 ⟨rfl, hb2⟩
        clear cG00 cG01 cG02 cG03 cG04 cG05 cG06 cG07 cG10 cG11
        replace G0 := Lib.hid (G0.out.below hb2 G0.out.lt)
        replace G1 := Lib.hid (G1.out.below hb2 G1.out.lt)
        replace B := Lib.hid (bvia B.out hb2)
        clear hb2
        have cG00 : w2.cell? ⟨w.heap.size, 0, none⟩ = some (.int .i64 ox) := G0.out.cell 0
        have cG01 : w2.cell? ⟨w.heap.size, 1, none⟩ = some (.int .i64 oy) := G0.out.cell 1
        have cG02 : w2.cell? ⟨w.heap.size, 2, none⟩ = some (.int .i64 px) := G0.out.cell 2
        have cG03 : w2.cell? ⟨w.heap.size, 3, none⟩ = some (.int .i64 py) := G0.out.cell 3
        have cG04 : w2.cell? ⟨w.heap.size, 4, none⟩ = some (.int .i64 qx) := G0.out.cell 4
        have cG05 : w2.cell? ⟨w.heap.size, 5, none⟩ = some (.int .i64 qy) := G0.out.cell 5
        have cG06 : w2.cell? ⟨w.heap.size, 6, none⟩ = some (.int .i64 rx) := G0.out.cell 6
        have cG07 : w2.cell? ⟨w.heap.size, 7, none⟩ = some (.int .i64 ry) := G0.out.cell 7
        have cG10 : w2.cell? ⟨w.heap.size + 1, 0, none⟩ = some (.int .i64 yx) := G1.out.cell 0
        have cG11 : w2.cell? ⟨w.heap.size + 1, 1, none⟩ = some (.int .i64 yy) := G1.out.cell 1
        go_wp2_with fail
        refine (C3.out _).mono ?_
        rintro e w3 ⟨rfl, hb3⟩
        clear cG00 cG01 cG02 cG03 cG04 cG05 cG06 cG07 cG10 cG11
        replace G0 := Lib.hid (G0.out.below hb3 G0.out.lt)
        replace G1 := Lib.hid (G1.out.below hb3 G1.out.lt)
        replace B := Lib.hid (bvia B.out hb3)
        clear hb3
        have cG00 : w3.cell? ⟨w.heap.size, 0, none⟩ = some (.int .i64 ox) := G0.out.cell 0
        have cG01 : w3.cell? ⟨w.heap.size, 1, none⟩ = some (.int .i64 oy) := G0.out.cell 1
        have cG02 : w3.cell? ⟨w.heap.size, 2, none⟩ = some (.int .i64 px) := G0.out.cell 2
        have cG03 : w3.cell? ⟨w.heap.size, 3, none⟩ = some (.int .i64 py) := G0.out.cell 3
        have cG04 : w3.cell? ⟨w.heap.size, 4, none⟩ = some (.int .i64 qx) := G0.out.cell 4
        have cG05 : w3.cell? ⟨w.heap.size, 5, none⟩ = some (.int .i64 qy) := G0.out.cell 5
        have cG06 : w3.cell? ⟨w.heap.size, 6, none⟩ = some (.int .i64 rx) := G0.out.cell 6
        have cG07 : w3.cell? ⟨w.heap.size, 7, none⟩ = some (.int .i64 ry) := G0.out.cell 7
        have cG10 : w3.cell? ⟨w.heap.size + 1, 0, none⟩ = some (.int .i64 yx) := G1.out.cell 0
        have cG11 : w3.cell? ⟨w.heap.size + 1, 1, none⟩ = some (.int .i64 yy) := G1.out.cell 1
        go_wp2_with fail
        refine (C4.out _).mono ?_
        rintro e w4 ⟨rfl, hb4⟩
        clear cG00 cG01 cG02 cG03 cG04 cG05 cG06 cG07 cG10 cG11
        replace G0 := Lib.hid (G0.out.below hb4 G0.out.lt)
        replace G1 := Lib.hid (G1.out.below hb4 G1.out.lt)
        replace B := Lib.hid (bvia B.out hb4)
        clear hb4
        have cG00 : w4.cell? ⟨w.heap.size, 0, none⟩ = some (.int .i64 ox) := G0.out.cell 0
        have cG01 : w4.cell? ⟨w.heap.size, 1, none⟩ = some (.int .i64 oy) := G0.out.cell 1
        have cG02 : w4.cell? ⟨w.heap.size, 2, none⟩ = some (.int .i64 px) := G0.out.cell 2
        have cG03 : w4.cell? ⟨w.heap.size, 3, none⟩ = some (.int .i64 py) := G0.out.cell 3
        have cG04 : w4.cell? ⟨w.heap.size, 4, none⟩ = some (.int .i64 qx) := G0.out.cell 4
        have cG05 : w4.cell? ⟨w.heap.size, 5, none⟩ = some (.int .i64 qy) := G0.out.cell 5
        have cG06 : w4.cell? ⟨w.heap.size, 6, none⟩ = some (.int .i64 rx) := G0.out.cell 6
        have cG07 : w4.cell? ⟨w.heap.size, 7, none⟩ = some (.int .i64 ry) := G0.out.cell 7
        have cG10 : w4.cell? ⟨w.heap.size + 1, 0, none⟩ = some (.int .i64 yx) := G1.out.cell 0
        have cG11 : w4.cell? ⟨w.heap.size + 1, 1, none⟩ = some (.int .i64 yy) := G1.out.cell 1
        go_wp2_with fail
        refine (C5.out _).mono ?_
        rintro e w5 ⟨rfl, hb5⟩
        clear cG00 cG01 cG02 cG03 cG04 cG05 cG06 cG07 cG10 cG11
        replace G0 := Lib.hid (G0.out.below hb5 G0.out.lt)
        replace G1 := Lib.hid (G1.out.below hb5 G1.out.lt)
        replace B := Lib.hid (bvia B.out hb5)
        clear hb5
        go_wp2_with fail
        go_wp2_with fail
        refine (awakeC _).mono ?_
        rintro e w6 ⟨rfl, hb6⟩
        replace G0 := Lib.hid (G0.out.below hb6 G0.out.lt)
        replace G1 := Lib.hid (G1.out.below hb6 G1.out.lt)
        replace B := Lib.hid (bvia B.out hb6)
        clear hb6
        go_wp2
        go_ret
        exact ⟨rfl, B.out⟩
      · have d1 : decide (0 < A) = false := decide_eq_false (by omega)
        rcases Int.lt_or_le 0 C with g2 | g2
        · have d2 : decide (0 < C) = true := decide_eq_true g2
          clear LL
          have G0 : Hid (Has (boxW w [([.int .i64 ox, .int .i64 oy, .int .i64 px, .int .i64 py, .int .i64 qx, .int .i64 qy, .int .i64 rx, .int .i64 ry], 27), ([.int .i64 yx, .int .i64 yy], 25)]) (w.heap.size) 27 [.int .i64 ox, .int .i64 oy, .int .i64 px, .int .i64 py, .int .i64 qx, .int .i64 qy, .int .i64 rx, .int .i64 ry]) := box_has [([.int .i64 ox, .int .i64 oy, .int .i64 px, .int .i64 py, .int .i64 qx, .int .i64 qy, .int .i64 rx, .int .i64 ry], 27), ([.int .i64 yx, .int .i64 yy], 25)] (w := w) (Below.refl _ _) (i := 0) rfl
          have G1 : Hid (Has (boxW w [([.int .i64 ox, .int .i64 oy, .int .i64 px, .int .i64 py, .int .i64 qx, .int .i64 qy, .int .i64 rx, .int .i64 ry], 27), ([.int .i64 yx, .int .i64 yy], 25)]) (w.heap.size + 1) 25 [.int .i64 yx, .int .i64 yy]) := box_has [([.int .i64 ox, .int .i64 oy, .int .i64 px, .int .i64 py, .int .i64 qx, .int .i64 qy, .int .i64 rx, .int .i64 ry], 27), ([.int .i64 yx, .int .i64 yy], 25)] (w := w) (Below.refl _ _) (i := 1) rfl
          have B := Lib.hid (boxW_below [([.int .i64 ox, .int .i64 oy, .int .i64 px, .int .i64 py, .int .i64 qx, .int .i64 qy, .int .i64 rx, .int .i64 ry], 27), ([.int .i64 yx, .int .i64 yy], 25)] w)
          obtain ⟨W1, hW1⟩ : ∃ W1, W1 = boxW w [([.int .i64 ox, .int .i64 oy, .int .i64 px, .int .i64 py, .int .i64 qx, .int .i64 qy, .int .i64 rx, .int .i64 ry], 27), ([.int .i64 yx, .int .i64 yy], 25)] := ⟨_, rfl⟩
          rw [← hW1] at G0 G1 B
          go_enter Try.func7, Try.ntmps7
          go_upto_region 1 with (fail)
          rw [show (w.alloc (.cells #[.int .i64 ox, .int .i64 oy, .int .i64 px, .int .i64 py, .int .i64 qx, .int .i64 qy, .int .i64 rx, .int .i64 ry] 27)).alloc (.cells #[.int .i64 yx, .int .i64 yy] 25) = W1 from hW1.symm]
          clear hW1
          have cG00 : W1.cell? ⟨w.heap.size, 0, none⟩ = some (.int .i64 ox) := G0.out.cell 0
          have cG01 : W1.cell? ⟨w.heap.size, 1, none⟩ = some (.int .i64 oy) := G0.out.cell 1
          have cG02 : W1.cell? ⟨w.heap.size, 2, none⟩ = some (.int .i64 px) := G0.out.cell 2
          have cG03 : W1.cell? ⟨w.heap.size, 3, none⟩ = some (.int .i64 py) := G0.out.cell 3
          have cG04 : W1.cell? ⟨w.heap.size, 4, none⟩ = some (.int .i64 qx) := G0.out.cell 4
          have cG05 : W1.cell? ⟨w.heap.size, 5, none⟩ = some (.int .i64 qy) := G0.out.cell 5
          have cG06 : W1.cell? ⟨w.heap.size, 6, none⟩ = some (.int .i64 rx) := G0.out.cell 6
          have cG07 : W1.cell? ⟨w.heap.size, 7, none⟩ = some (.int .i64 ry) := G0.out.cell 7
          have cG10 : W1.cell? ⟨w.heap.size + 1, 0, none⟩ = some (.int .i64 yx) := G1.out.cell 0
          have cG11 : W1.cell? ⟨w.heap.size + 1, 1, none⟩ = some (.int .i64 yy) := G1.out.cell 1
          go_wp2_with fail
          refine (C1.out _).mono ?_
          rintro e w1 ⟨rfl, hb1⟩
          clear cG00 cG01 cG02 cG03 cG04 cG05 cG06 cG07 cG10 cG11
          replace G0 := Lib.hid (G0.out.below hb1 G0.out.lt)
          replace G1 := Lib.hid (G1.out.below hb1 G1.out.lt)
          replace B := Lib.hid (bvia B.out hb1)
          clear hb1
          have cG00 : w1.cell? ⟨w.heap.size, 0, none⟩ = some (.int .i64 ox) := G0.out.cell 0
          have cG01 : w1.cell? ⟨w.heap.size, 1, none⟩ = some (.int .i64 oy) := G0.out.cell 1
          have cG02 : w1.cell? ⟨w.heap.size, 2, none⟩ = some (.int .i64 px) := G0.out.cell 2
          have cG03 : w1.cell? ⟨w.heap.size, 3, none⟩ = some (.int .i64 py) := G0.out.cell 3
          have cG04 : w1.cell? ⟨w.heap.size, 4, none⟩ = some (.int .i64 qx) := G0.out.cell 4
          have cG05 : w1.cell? ⟨w.heap.size, 5, none⟩ = some (.int .i64 qy) := G0.out.cell 5
          have cG06 : w1.cell? ⟨w.heap.size, 6, none⟩ = some (.int .i64 rx) := G0.out.cell 6
          have cG07 : w1.cell? ⟨w.heap.size, 7, none⟩ = some (.int .i64 ry) := G0.out.cell 7
          have cG10 : w1.cell? ⟨w.heap.size + 1, 0, none⟩ = some (.int .i64 yx) := G1.out.cell 0
          have cG11 : w1.cell? ⟨w.heap.size + 1, 1, none⟩ = some (.int .i64 yy) := G1.out.cell 1
          go_wp2_with fail
          refine (C2.out _).mono ?_
          rintro e w2 ⟨rfl, hb2⟩
          clear cG00 cG01 cG02 cG03 cG04 cG05 cG06 cG07 cG10 cG11
          replace G0 := Lib.hid (G0.out.below hb2 G0.out.lt)
          replace G1 := Lib.hid (G1.out.below hb2 G1.out.lt)
          replace B := Lib.hid (bvia B.out hb2)
          clear hb2
          have cG00 : w2.cell? ⟨w.heap.size, 0, none⟩ = some (.int .i64 ox) := G0.out.cell 0
          have cG01 : w2.cell? ⟨w.heap.size, 1, none⟩ = some (.int .i64 oy) := G0.out.cell 1
          have cG02 : w2.cell? ⟨w.heap.size, 2, none⟩ = some (.int .i64 px) := G0.out.cell 2
          have cG03 : w2.cell? ⟨w.heap.size, 3, none⟩ = some (.int .i64 py) := G0.out.cell 3
          have cG04 : w2.cell? ⟨w.heap.size, 4, none⟩ = some (.int .i64 qx) := G0.out.cell 4
          have cG05 : w2.cell? ⟨w.heap.size, 5, none⟩ = some (.int .i64 qy) := G0.out.cell 5
          have cG06 : w2.cell? ⟨w.heap.size, 6, none⟩ = some (.int .i64 rx) := G0.out.cell 6
          have cG07 : w2.cell? ⟨w.heap.size, 7, none⟩ = some (.int .i64 ry) := G0.out.cell 7
          have cG10 : w2.cell? ⟨w.heap.size + 1, 0, none⟩ = some (.int .i64 yx) := G1.out.cell 0
          have cG11 : w2.cell? ⟨w.heap.size + 1, 1, none⟩ = some (.int .i64 yy) := G1.out.cell 1
          go_wp2_with fail
          refine (C3.out _).mono ?_
          rintro e w3 ⟨rfl, hb3⟩
          clear cG00 cG01 cG02 cG03 cG04 cG05 cG06 cG07 cG10 cG11
          replace G0 := Lib.hid (G0.out.below hb3 G0.out.lt)
          replace G1 := Lib.hid (G1.out.below hb3 G1.out.lt)
          replace B := Lib.hid (bvia B.out hb3)
          clear hb3
          have cG00 : w3.cell? ⟨w.heap.size, 0, none⟩ = some (.int .i64 ox) := G0.out.cell 0
          have cG01 : w3.cell? ⟨w.heap.size, 1, none⟩ = some (.int .i64 oy) := G0.out.cell 1
          have cG02 : w3.cell? ⟨w.heap.size, 2, none⟩ = some (.int .i64 px) := G0.out.cell 2
          have cG03 : w3.cell? ⟨w.heap.size, 3, none⟩ = some (.int .i64 py) := G0.out.cell 3
          have cG04 : w3.cell? ⟨w.heap.size, 4, none⟩ = some (.int .i64 qx) := G0.out.cell 4
          have cG05 : w3.cell? ⟨w.heap.size, 5, none⟩ = some (.int .i64 qy) := G0.out.cell 5
          have cG06 : w3.cell? ⟨w.heap.size, 6, none⟩ = some (.int .i64 rx) := G0.out.cell 6
          have cG07 : w3.cell? ⟨w.heap.size, 7, none⟩ = some (.int .i64 ry) := G0.out.cell 7
          have cG10 : w3.cell? ⟨w.heap.size + 1, 0, none⟩ = some (.int .i64 yx) := G1.out.cell 0
          have cG11 : w3.cell? ⟨w.heap.size + 1, 1, none⟩ = some (.int .i64 yy) := G1.out.cell 1
          go_wp2_with fail
          refine (C4.out _).mono ?_
          rintro e w4 ⟨rfl, hb4⟩
          clear cG00 cG01 cG02 cG03 cG04 cG05 cG06 cG07 cG10 cG11
          replace G0 := Lib.hid (G0.out.below hb4 G0.out.lt)
          replace G1 := Lib.hid (G1.out.below hb4 G1.out.lt)
          replace B := Lib.hid (bvia B.out hb4)
          clear hb4
          have cG00 : w4.cell? ⟨w.heap.size, 0, none⟩ = some (.int .i64 ox) := G0.out.cell 0
          have cG01 : w4.cell? ⟨w.heap.size, 1, none⟩ = some (.int .i64 oy) := G0.out.cell 1
          have cG02 : w4.cell? ⟨w.heap.size, 2, none⟩ = some (.int .i64 px) := G0.out.cell 2
          have cG03 : w4.cell? ⟨w.heap.size, 3, none⟩ = some (.int .i64 py) := G0.out.cell 3
          have cG04 : w4.cell? ⟨w.heap.size, 4, none⟩ = some (.int .i64 qx) := G0.out.cell 4
          have cG05 : w4.cell? ⟨w.heap.size, 5, none⟩ = some (.int .i64 qy) := G0.out.cell 5
          have cG06 : w4.cell? ⟨w.heap.size, 6, none⟩ = some (.int .i64 rx) := G0.out.cell 6
          have cG07 : w4.cell? ⟨w.heap.size, 7, none⟩ = some (.int .i64 ry) := G0.out.cell 7
          have cG10 : w4.cell? ⟨w.heap.size + 1, 0, none⟩ = some (.int .i64 yx) := G1.out.cell 0
          have cG11 : w4.cell? ⟨w.heap.size + 1, 1, none⟩ = some (.int .i64 yy) := G1.out.cell 1
          go_wp2_with fail
          refine (C5.out _).mono ?_
          rintro e w5 ⟨rfl, hb5⟩
          clear cG00 cG01 cG02 cG03 cG04 cG05 cG06 cG07 cG10 cG11
          replace G0 := Lib.hid (G0.out.below hb5 G0.out.lt)
          replace G1 := Lib.hid (G1.out.below hb5 G1.out.lt)
          replace B := Lib.hid (bvia B.out hb5)
          clear hb5
          go_wp2_with fail
          go_wp2_with fail
          refine (awakeC _).mono ?_
          rintro e w6 ⟨rfl, hb6⟩
          replace G0 := Lib.hid (G0.out.below hb6 G0.out.lt)
          replace G1 := Lib.hid (G1.out.below hb6 G1.out.lt)
          replace B := Lib.hid (bvia B.out hb6)
          clear hb6
          go_wp2
          go_ret
          exact ⟨rfl, B.out⟩
        · have d2 : decide (0 < C) = false := decide_eq_false (by omega)
          obtain ⟨g3, g4⟩ := LL.out g1 g2
          have d3 : decide (D ≤ 0) = true := decide_eq_true g3
          clear LL
          by_cases ga : A = 0
          · by_cases gc : C = 0
            · have gd : D = 0 := g4.2 ⟨ga, gc⟩
              clear g1 g2 g3 g4 d1 d2 d3
              subst gc gd
              have gb : Bv = 0 := by have := HL1.out; omega
              subst gb
              subst ga
              clear HL1 i1 j1 l3
              have G0 : Hid (Has (boxW w [([.int .i64 ox, .int .i64 oy, .int .i64 px, .int .i64 py, .int .i64 qx, .int .i64 qy, .int .i64 rx, .int .i64 ry], 27), ([.int .i64 yx, .int .i64 yy], 25)]) (w.heap.size) 27 [.int .i64 ox, .int .i64 oy, .int .i64 px, .int .i64 py, .int .i64 qx, .int .i64 qy, .int .i64 rx, .int .i64 ry]) := box_has [([.int .i64 ox, .int .i64 oy, .int .i64 px, .int .i64 py, .int .i64 qx, .int .i64 qy, .int .i64 rx, .int .i64 ry], 27), ([.int .i64 yx, .int .i64 yy], 25)] (w := w) (Below.refl _ _) (i := 0) rfl
              have G1 : Hid (Has (boxW w [([.int .i64 ox, .int .i64 oy, .int .i64 px, .int .i64 py, .int .i64 qx, .int .i64 qy, .int .i64 rx, .int .i64 ry], 27), ([.int .i64 yx, .int .i64 yy], 25)]) (w.heap.size + 1) 25 [.int .i64 yx, .int .i64 yy]) := box_has [([.int .i64 ox, .int .i64 oy, .int .i64 px, .int .i64 py, .int .i64 qx, .int .i64 qy, .int .i64 rx, .int .i64 ry], 27), ([.int .i64 yx, .int .i64 yy], 25)] (w := w) (Below.refl _ _) (i := 1) rfl
              have B := Lib.hid (boxW_below [([.int .i64 ox, .int .i64 oy, .int .i64 px, .int .i64 py, .int .i64 qx, .int .i64 qy, .int .i64 rx, .int .i64 ry], 27), ([.int .i64 yx, .int .i64 yy], 25)] w)
              obtain ⟨W1, hW1⟩ : ∃ W1, W1 = boxW w [([.int .i64 ox, .int .i64 oy, .int .i64 px, .int .i64 py, .int .i64 qx, .int .i64 qy, .int .i64 rx, .int .i64 ry], 27), ([.int .i64 yx, .int .i64 yy], 25)] := ⟨_, rfl⟩
              rw [← hW1] at G0 G1 B
              go_enter Try.func7, Try.ntmps7
              go_upto_region 1 with (fail)
              rw [show (w.alloc (.cells #[.int .i64 ox, .int .i64 oy, .int .i64 px, .int .i64 py, .int .i64 qx, .int .i64 qy, .int .i64 rx, .int .i64 ry] 27)).alloc (.cells #[.int .i64 yx, .int .i64 yy] 25) = W1 from hW1.symm]
              clear hW1
              have cG00 : W1.cell? ⟨w.heap.size, 0, none⟩ = some (.int .i64 ox) := G0.out.cell 0
              have cG01 : W1.cell? ⟨w.heap.size, 1, none⟩ = some (.int .i64 oy) := G0.out.cell 1
              have cG02 : W1.cell? ⟨w.heap.size, 2, none⟩ = some (.int .i64 px) := G0.out.cell 2
              have cG03 : W1.cell? ⟨w.heap.size, 3, none⟩ = some (.int .i64 py) := G0.out.cell 3
              have cG04 : W1.cell? ⟨w.heap.size, 4, none⟩ = some (.int .i64 qx) := G0.out.cell 4
              have cG05 : W1.cell? ⟨w.heap.size, 5, none⟩ = some (.int .i64 qy) := G0.out.cell 5
              have cG06 : W1.cell? ⟨w.heap.size, 6, none⟩ = some (.int .i64 rx) := G0.out.cell 6
              have cG07 : W1.cell? ⟨w.heap.size, 7, none⟩ = some (.int .i64 ry) := G0.out.cell 7
              have cG10 : W1.cell? ⟨w.heap.size + 1, 0, none⟩ = some (.int .i64 yx) := G1.out.cell 0
              have cG11 : W1.cell? ⟨w.heap.size + 1, 1, none⟩ = some (.int .i64 yy) := G1.out.cell 1
              go_wp2_with fail
              refine (C1.out _).mono ?_
              rintro e w1 ⟨rfl, hb1⟩
              clear cG00 cG01 cG02 cG03 cG04 cG05 cG06 cG07 cG10 cG11
              replace G0 := Lib.hid (G0.out.below hb1 G0.out.lt)
              replace G1 := Lib.hid (G1.out.below hb1 G1.out.lt)
              replace B := Lib.hid (bvia B.out hb1)
              clear hb1
              have cG00 : w1.cell? ⟨w.heap.size, 0, none⟩ = some (.int .i64 ox) := G0.out.cell 0
              have cG01 : w1.cell? ⟨w.heap.size, 1, none⟩ = some (.int .i64 oy) := G0.out.cell 1
              have cG02 : w1.cell? ⟨w.heap.size, 2, none⟩ = some (.int .i64 px) := G0.out.cell 2
              have cG03 : w1.cell? ⟨w.heap.size, 3, none⟩ = some (.int .i64 py) := G0.out.cell 3
              have cG04 : w1.cell? ⟨w.heap.size, 4, none⟩ = some (.int .i64 qx) := G0.out.cell 4
              have cG05 : w1.cell? ⟨w.heap.size, 5, none⟩ = some (.int .i64 qy) := G0.out.cell 5
              have cG06 : w1.cell? ⟨w.heap.size, 6, none⟩ = some (.int .i64 rx) := G0.out.cell 6
              have cG07 : w1.cell? ⟨w.heap.size, 7, none⟩ = some (.int .i64 ry) := G0.out.cell 7
              have cG10 : w1.cell? ⟨w.heap.size + 1, 0, none⟩ = some (.int .i64 yx) := G1.out.cell 0
              have cG11 : w1.cell? ⟨w.heap.size + 1, 1, none⟩ = some (.int .i64 yy) := G1.out.cell 1
              go_wp2_with fail
              refine (C2.out _).mono ?_
              rintro e w2 ⟨rfl, hb2⟩
              clear cG00 cG01 cG02 cG03 cG04 cG05 cG06 cG07 cG10 cG11
              replace G0 := Lib.hid (G0.out.below hb2 G0.out.lt)
              replace G1 := Lib.hid (G1.out.below hb2 G1.out.lt)
              replace B := Lib.hid (bvia B.out hb2)
              clear hb2
              have cG00 : w2.cell? ⟨w.heap.size, 0, none⟩ = some (.int .i64 ox) := G0.out.cell 0
              have cG01 : w2.cell? ⟨w.heap.size, 1, none⟩ = some (.int .i64 oy) := G0.out.cell 1
              have cG02 : w2.cell? ⟨w.heap.size, 2, none⟩ = some (.int .i64 px) := G0.out.cell 2
              have cG03 : w2.cell? ⟨w.heap.size, 3, none⟩ = some (.int .i64 py) := G0.out.cell 3
              have cG04 : w2.cell? ⟨w.heap.size, 4, none⟩ = some (.int .i64 qx) := G0.out.cell 4
              have cG05 : w2.cell? ⟨w.heap.size, 5, none⟩ = some (.int .i64 qy) := G0.out.cell 5
              have cG06 : w2.cell? ⟨w.heap.size, 6, none⟩ = some (.int .i64 rx) := G0.out.cell 6
              have cG07 : w2.cell? ⟨w.heap.size, 7, none⟩ = some (.int .i64 ry) := G0.out.cell 7
              have cG10 : w2.cell? ⟨w.heap.size + 1, 0, none⟩ = some (.int .i64 yx) := G1.out.cell 0
              have cG11 : w2.cell? ⟨w.heap.size + 1, 1, none⟩ = some (.int .i64 yy) := G1.out.cell 1
              go_wp2_with fail
              refine (C3.out _).mono ?_
              rintro e w3 ⟨rfl, hb3⟩
              clear cG00 cG01 cG02 cG03 cG04 cG05 cG06 cG07 cG10 cG11
              replace G0 := Lib.hid (G0.out.below hb3 G0.out.lt)
              replace G1 := Lib.hid (G1.out.below hb3 G1.out.lt)
              replace B := Lib.hid (bvia B.out hb3)
              clear hb3
              have cG00 : w3.cell? ⟨w.heap.size, 0, none⟩ = some (.int .i64 ox) := G0.out.cell 0
              have cG01 : w3.cell? ⟨w.heap.size, 1, none⟩ = some (.int .i64 oy) := G0.out.cell 1
              have cG02 : w3.cell? ⟨w.heap.size, 2, none⟩ = some (.int .i64 px) := G0.out.cell 2
              have cG03 : w3.cell? ⟨w.heap.size, 3, none⟩ = some (.int .i64 py) := G0.out.cell 3
              have cG04 : w3.cell? ⟨w.heap.size, 4, none⟩ = some (.int .i64 qx) := G0.out.cell 4
              have cG05 : w3.cell? ⟨w.heap.size, 5, none⟩ = some (.int .i64 qy) := G0.out.cell 5
              have cG06 : w3.cell? ⟨w.heap.size, 6, none⟩ = some (.int .i64 rx) := G0.out.cell 6
              have cG07 : w3.cell? ⟨w.heap.size, 7, none⟩ = some (.int .i64 ry) := G0.out.cell 7
              have cG10 : w3.cell? ⟨w.heap.size + 1, 0, none⟩ = some (.int .i64 yx) := G1.out.cell 0
              have cG11 : w3.cell? ⟨w.heap.size + 1, 1, none⟩ = some (.int .i64 yy) := G1.out.cell 1
              go_wp2_with fail
              refine (C4.out _).mono ?_
              rintro e w4 ⟨rfl, hb4⟩
              clear cG00 cG01 cG02 cG03 cG04 cG05 cG06 cG07 cG10 cG11
              replace G0 := Lib.hid (G0.out.below hb4 G0.out.lt)
              replace G1 := Lib.hid (G1.out.below hb4 G1.out.lt)
              replace B := Lib.hid (bvia B.out hb4)
              clear hb4
              have cG00 : w4.cell? ⟨w.heap.size, 0, none⟩ = some (.int .i64 ox) := G0.out.cell 0
              have cG01 : w4.cell? ⟨w.heap.size, 1, none⟩ = some (.int .i64 oy) := G0.out.cell 1
              have cG02 : w4.cell? ⟨w.heap.size, 2, none⟩ = some (.int .i64 px) := G0.out.cell 2
              have cG03 : w4.cell? ⟨w.heap.size, 3, none⟩ = some (.int .i64 py) := G0.out.cell 3
              have cG04 : w4.cell? ⟨w.heap.size, 4, none⟩ = some (.int .i64 qx) := G0.out.cell 4
              have cG05 : w4.cell? ⟨w.heap.size, 5, none⟩ = some (.int .i64 qy) := G0.out.cell 5
              have cG06 : w4.cell? ⟨w.heap.size, 6, none⟩ = some (.int .i64 rx) := G0.out.cell 6
              have cG07 : w4.cell? ⟨w.heap.size, 7, none⟩ = some (.int .i64 ry) := G0.out.cell 7
              have cG10 : w4.cell? ⟨w.heap.size + 1, 0, none⟩ = some (.int .i64 yx) := G1.out.cell 0
              have cG11 : w4.cell? ⟨w.heap.size + 1, 1, none⟩ = some (.int .i64 yy) := G1.out.cell 1
              go_wp2_with fail
              refine (C5.out _).mono ?_
              rintro e w5 ⟨rfl, hb5⟩
              clear cG00 cG01 cG02 cG03 cG04 cG05 cG06 cG07 cG10 cG11
              replace G0 := Lib.hid (G0.out.below hb5 G0.out.lt)
              replace G1 := Lib.hid (G1.out.below hb5 G1.out.lt)
              replace B := Lib.hid (bvia B.out hb5)
              clear hb5
              go_wp2_with fail
              go_wp2_with fail
              refine (awakeC _).mono ?_
              rintro e w6 ⟨rfl, hb6⟩
              replace G0 := Lib.hid (G0.out.below hb6 G0.out.lt)
              replace G1 := Lib.hid (G1.out.below hb6 G1.out.lt)
              replace B := Lib.hid (bvia B.out hb6)
              clear hb6
              go_wp2
              go_ret
              exact ⟨rfl, B.out⟩
            · have gd : D ≠ 0 := fun h => gc (g4.1 h).2
              have e1 : (C == 0) = false := beq_eq_false_iff_ne.2 gc
              have e2 : (D == 0) = false := beq_eq_false_iff_ne.2 gd
              have e3 : (A == 0) = true := beq_iff_eq.2 ga
              clear g1 g2 g3 g4 ga gc gd
              have G0 : Hid (Has (boxW w [([.int .i64 ox, .int .i64 oy, .int .i64 px, .int .i64 py, .int .i64 qx, .int .i64 qy, .int .i64 rx, .int .i64 ry], 27), ([.int .i64 yx, .int .i64 yy], 25)]) (w.heap.size) 27 [.int .i64 ox, .int .i64 oy, .int .i64 px, .int .i64 py, .int .i64 qx, .int .i64 qy, .int .i64 rx, .int .i64 ry]) := box_has [([.int .i64 ox, .int .i64 oy, .int .i64 px, .int .i64 py, .int .i64 qx, .int .i64 qy, .int .i64 rx, .int .i64 ry], 27), ([.int .i64 yx, .int .i64 yy], 25)] (w := w) (Below.refl _ _) (i := 0) rfl
              have G1 : Hid (Has (boxW w [([.int .i64 ox, .int .i64 oy, .int .i64 px, .int .i64 py, .int .i64 qx, .int .i64 qy, .int .i64 rx, .int .i64 ry], 27), ([.int .i64 yx, .int .i64 yy], 25)]) (w.heap.size + 1) 25 [.int .i64 yx, .int .i64 yy]) := box_has [([.int .i64 ox, .int .i64 oy, .int .i64 px, .int .i64 py, .int .i64 qx, .int .i64 qy, .int .i64 rx, .int .i64 ry], 27), ([.int .i64 yx, .int .i64 yy], 25)] (w := w) (Below.refl _ _) (i := 1) rfl
              have B := Lib.hid (boxW_below [([.int .i64 ox, .int .i64 oy, .int .i64 px, .int .i64 py, .int .i64 qx, .int .i64 qy, .int .i64 rx, .int .i64 ry], 27), ([.int .i64 yx, .int .i64 yy], 25)] w)
              obtain ⟨W1, hW1⟩ : ∃ W1, W1 = boxW w [([.int .i64 ox, .int .i64 oy, .int .i64 px, .int .i64 py, .int .i64 qx, .int .i64 qy, .int .i64 rx, .int .i64 ry], 27), ([.int .i64 yx, .int .i64 yy], 25)] := ⟨_, rfl⟩
              rw [← hW1] at G0 G1 B
              go_enter Try.func7, Try.ntmps7
              go_upto_region 1 with (fail)
              rw [show (w.alloc (.cells #[.int .i64 ox, .int .i64 oy, .int .i64 px, .int .i64 py, .int .i64 qx, .int .i64 qy, .int .i64 rx, .int .i64 ry] 27)).alloc (.cells #[.int .i64 yx, .int .i64 yy] 25) = W1 from hW1.symm]
              clear hW1
              have cG00 : W1.cell? ⟨w.heap.size, 0, none⟩ = some (.int .i64 ox) := G0.out.cell 0
              have cG01 : W1.cell? ⟨w.heap.size, 1, none⟩ = some (.int .i64 oy) := G0.out.cell 1
              have cG02 : W1.cell? ⟨w.heap.size, 2, none⟩ = some (.int .i64 px) := G0.out.cell 2
              have cG03 : W1.cell? ⟨w.heap.size, 3, none⟩ = some (.int .i64 py) := G0.out.cell 3
              have cG04 : W1.cell? ⟨w.heap.size, 4, none⟩ = some (.int .i64 qx) := G0.out.cell 4
              have cG05 : W1.cell? ⟨w.heap.size, 5, none⟩ = some (.int .i64 qy) := G0.out.cell 5
              have cG06 : W1.cell? ⟨w.heap.size, 6, none⟩ = some (.int .i64 rx) := G0.out.cell 6
              have cG07 : W1.cell? ⟨w.heap.size, 7, none⟩ = some (.int .i64 ry) := G0.out.cell 7
              have cG10 : W1.cell? ⟨w.heap.size + 1, 0, none⟩ = some (.int .i64 yx) := G1.out.cell 0
              have cG11 : W1.cell? ⟨w.heap.size + 1, 1, none⟩ = some (.int .i64 yy) := G1.out.cell 1
              go_wp2_with fail
              refine (C1.out _).mono ?_
              rintro e w1 ⟨rfl, hb1⟩
              clear cG00 cG01 cG02 cG03 cG04 cG05 cG06 cG07 cG10 cG11
              replace G0 := Lib.hid (G0.out.below hb1 G0.out.lt)
              replace G1 := Lib.hid (G1.out.below hb1 G1.out.lt)
              replace B := Lib.hid (bvia B.out hb1)
              clear hb1
              have cG00 : w1.cell? ⟨w.heap.size, 0, none⟩ = some (.int .i64 ox) := G0.out.cell 0
              have cG01 : w1.cell? ⟨w.heap.size, 1, none⟩ = some (.int .i64 oy) := G0.out.cell 1
              have cG02 : w1.cell? ⟨w.heap.size, 2, none⟩ = some (.int .i64 px) := G0.out.cell 2
              have cG03 : w1.cell? ⟨w.heap.size, 3, none⟩ = some (.int .i64 py) := G0.out.cell 3
              have cG04 : w1.cell? ⟨w.heap.size, 4, none⟩ = some (.int .i64 qx) := G0.out.cell 4
              have cG05 : w1.cell? ⟨w.heap.size, 5, none⟩ = some (.int .i64 qy) := G0.out.cell 5
              have cG06 : w1.cell? ⟨w.heap.size, 6, none⟩ = some (.int .i64 rx) := G0.out.cell 6
              have cG07 : w1.cell? ⟨w.heap.size, 7, none⟩ = some (.int .i64 ry) := G0.out.cell 7
              have cG10 : w1.cell? ⟨w.heap.size + 1, 0, none⟩ = some (.int .i64 yx) := G1.out.cell 0
              have cG11 : w1.cell? ⟨w.heap.size + 1, 1, none⟩ = some (.int .i64 yy) := G1.out.cell 1
              go_wp2_with fail
              refine (C2.out _).mono ?_
              rintro e w2 ⟨rfl, hb2⟩
              clear cG00 cG01 cG02 cG03 cG04 cG05 cG06 cG07 cG10 cG11
              replace G0 := Lib.hid (G0.out.below hb2 G0.out.lt)
              replace G1 := Lib.hid (G1.out.below hb2 G1.out.lt)
              replace B := Lib.hid (bvia B.out hb2)
              clear hb2
              have cG00 : w2.cell? ⟨w.heap.size, 0, none⟩ = some (.int .i64 ox) := G0.out.cell 0
              have cG01 : w2.cell? ⟨w.heap.size, 1, none⟩ = some (.int .i64 oy) := G0.out.cell 1
              have cG02 : w2.cell? ⟨w.heap.size, 2, none⟩ = some (.int .i64 px) := G0.out.cell 2
              have cG03 : w2.cell? ⟨w.heap.size, 3, none⟩ = some (.int .i64 py) := G0.out.cell 3
              have cG04 : w2.cell? ⟨w.heap.size, 4, none⟩ = some (.int .i64 qx) := G0.out.cell 4
              have cG05 : w2.cell? ⟨w.heap.size, 5, none⟩ = some (.int .i64 qy) := G0.out.cell 5
              have cG06 : w2.cell? ⟨w.heap.size, 6, none⟩ = some (.int .i64 rx) := G0.out.cell 6
              have cG07 : w2.cell? ⟨w.heap.size, 7, none⟩ = some (.int .i64 ry) := G0.out.cell 7
              have cG10 : w2.cell? ⟨w.heap.size + 1, 0, none⟩ = some (.int .i64 yx) := G1.out.cell 0
              have cG11 : w2.cell? ⟨w.heap.size + 1, 1, none⟩ = some (.int .i64 yy) := G1.out.cell 1
              go_wp2_with fail
              refine (C3.out _).mono ?_
              rintro e w3 ⟨rfl, hb3⟩
              clear cG00 cG01 cG02 cG03 cG04 cG05 cG06 cG07 cG10 cG11
              replace G0 := Lib.hid (G0.out.below hb3 G0.out.lt)
              replace G1 := Lib.hid (G1.out.below hb3 G1.out.lt)
              replace B := Lib.hid (bvia B.out hb3)
              clear hb3
              have cG00 : w3.cell? ⟨w.heap.size, 0, none⟩ = some (.int .i64 ox) := G0.out.cell 0
              have cG01 : w3.cell? ⟨w.heap.size, 1, none⟩ = some (.int .i64 oy) := G0.out.cell 1
              have cG02 : w3.cell? ⟨w.heap.size, 2, none⟩ = some (.int .i64 px) := G0.out.cell 2
              have cG03 : w3.cell? ⟨w.heap.size, 3, none⟩ = some (.int .i64 py) := G0.out.cell 3
              have cG04 : w3.cell? ⟨w.heap.size, 4, none⟩ = some (.int .i64 qx) := G0.out.cell 4
              have cG05 : w3.cell? ⟨w.heap.size, 5, none⟩ = some (.int .i64 qy) := G0.out.cell 5
              have cG06 : w3.cell? ⟨w.heap.size, 6, none⟩ = some (.int .i64 rx) := G0.out.cell 6
              have cG07 : w3.cell? ⟨w.heap.size, 7, none⟩ = some (.int .i64 ry) := G0.out.cell 7
              have cG10 : w3.cell? ⟨w.heap.size + 1, 0, none⟩ = some (.int .i64 yx) := G1.out.cell 0
              have cG11 : w3.cell? ⟨w.heap.size + 1, 1, none⟩ = some (.int .i64 yy) := G1.out.cell 1
              go_wp2_with fail
              refine (C4.out _).mono ?_
              rintro e w4 ⟨rfl, hb4⟩
              clear cG00 cG01 cG02 cG03 cG04 cG05 cG06 cG07 cG10 cG11
              replace G0 := Lib.hid (G0.out.below hb4 G0.out.lt)
              replace G1 := Lib.hid (G1.out.below hb4 G1.out.lt)
              replace B := Lib.hid (bvia B.out hb4)
              clear hb4
              have cG00 : w4.cell? ⟨w.heap.size, 0, none⟩ = some (.int .i64 ox) := G0.out.cell 0
              have cG01 : w4.cell? ⟨w.heap.size, 1, none⟩ = some (.int .i64 oy) := G0.out.cell 1
              have cG02 : w4.cell? ⟨w.heap.size, 2, none⟩ = some (.int .i64 px) := G0.out.cell 2
              have cG03 : w4.cell? ⟨w.heap.size, 3, none⟩ = some (.int .i64 py) := G0.out.cell 3
              have cG04 : w4.cell? ⟨w.heap.size, 4, none⟩ = some (.int .i64 qx) := G0.out.cell 4
              have cG05 : w4.cell? ⟨w.heap.size, 5, none⟩ = some (.int .i64 qy) := G0.out.cell 5
              have cG06 : w4.cell? ⟨w.heap.size, 6, none⟩ = some (.int .i64 rx) := G0.out.cell 6
              have cG07 : w4.cell? ⟨w.heap.size, 7, none⟩ = some (.int .i64 ry) := G0.out.cell 7
              have cG10 : w4.cell? ⟨w.heap.size + 1, 0, none⟩ = some (.int .i64 yx) := G1.out.cell 0
              have cG11 : w4.cell? ⟨w.heap.size + 1, 1, none⟩ = some (.int .i64 yy) := G1.out.cell 1
              go_wp2_with fail
              refine (C5.out _).mono ?_
              rintro e w5 ⟨rfl, hb5⟩
              clear cG00 cG01 cG02 cG03 cG04 cG05 cG06 cG07 cG10 cG11
              replace G0 := Lib.hid (G0.out.below hb5 G0.out.lt)
              replace G1 := Lib.hid (G1.out.below hb5 G1.out.lt)
              replace B := Lib.hid (bvia B.out hb5)
              clear hb5
              go_wp2_with fail
              go_wp2_with fail
              refine (awakeC _).mono ?_
              rintro e w6 ⟨rfl, hb6⟩
              replace G0 := Lib.hid (G0.out.below hb6 G0.out.lt)
              replace G1 := Lib.hid (G1.out.below hb6 G1.out.lt)
              replace B := Lib.hid (bvia B.out hb6)
              clear hb6
              go_wp2
              go_ret
              exact ⟨rfl, B.out⟩
          · have gd : D ≠ 0 := fun h => ga (g4.1 h).1
            have e1 : (A == 0) = false := beq_eq_false_iff_ne.2 ga
            have e2 : (D == 0) = false := beq_eq_false_iff_ne.2 gd
            clear g1 g2 g3 g4 ga gd
            have G0 : Hid (Has (boxW w [([.int .i64 ox, .int .i64 oy, .int .i64 px, .int .i64 py, .int .i64 qx, .int .i64 qy, .int .i64 rx, .int .i64 ry], 27), ([.int .i64 yx, .int .i64 yy], 25)]) (w.heap.size) 27 [.int .i64 ox, .int .i64 oy, .int .i64 px, .int .i64 py, .int .i64 qx, .int .i64 qy, .int .i64 rx, .int .i64 ry]) := box_has [([.int .i64 ox, .int .i64 oy, .int .i64 px, .int .i64 py, .int .i64 qx, .int .i64 qy, .int .i64 rx, .int .i64 ry], 27), ([.int .i64 yx, .int .i64 yy], 25)] (w := w) (Below.refl _ _) (i := 0) rfl
            have G1 : Hid (Has (boxW w [([.int .i64 ox, .int .i64 oy, .int .i64 px, .int .i64 py, .int .i64 qx, .int .i64 qy, .int .i64 rx, .int .i64 ry], 27), ([.int .i64 yx, .int .i64 yy], 25)]) (w.heap.size + 1) 25 [.int .i64 yx, .int .i64 yy]) := box_has [([.int .i64 ox, .int .i64 oy, .int .i64 px, .int .i64 py, .int .i64 qx, .int .i64 qy, .int .i64 rx, .int .i64 ry], 27), ([.int .i64 yx, .int .i64 yy], 25)] (w := w) (Below.refl _ _) (i := 1) rfl
            have B := Lib.hid (boxW_below [([.int .i64 ox, .int .i64 oy, .int .i64 px, .int .i64 py, .int .i64 qx, .int .i64 qy, .int .i64 rx, .int .i64 ry], 27), ([.int .i64 yx, .int .i64 yy], 25)] w)
            obtain ⟨W1, hW1⟩ : ∃ W1, W1 = boxW w [([.int .i64 ox, .int .i64 oy, .int .i64 px, .int .i64 py, .int .i64 qx, .int .i64 qy, .int .i64 rx, .int .i64 ry], 27), ([.int .i64 yx, .int .i64 yy], 25)] := ⟨_, rfl⟩
            rw [← hW1] at G0 G1 B
            go_enter Try.func7, Try.ntmps7
            go_upto_region 1 with (fail)
            rw [show (w.alloc (.cells #[.int .i64 ox, .int .i64 oy, .int .i64 px, .int .i64 py, .int .i64 qx, .int .i64 qy, .int .i64 rx, .int .i64 ry] 27)).alloc (.cells #[.int .i64 yx, .int .i64 yy] 25) = W1 from hW1.symm]
            clear hW1
            have cG00 : W1.cell? ⟨w.heap.size, 0, none⟩ = some (.int .i64 ox) := G0.out.cell 0
            have cG01 : W1.cell? ⟨w.heap.size, 1, none⟩ = some (.int .i64 oy) := G0.out.cell 1
            have cG02 : W1.cell? ⟨w.heap.size, 2, none⟩ = some (.int .i64 px) := G0.out.cell 2
            have cG03 : W1.cell? ⟨w.heap.size, 3, none⟩ = some (.int .i64 py) := G0.out.cell 3
            have cG04 : W1.cell? ⟨w.heap.size, 4, none⟩ = some (.int .i64 qx) := G0.out.cell 4
            have cG05 : W1.cell? ⟨w.heap.size, 5, none⟩ = some (.int .i64 qy) := G0.out.cell 5
            have cG06 : W1.cell? ⟨w.heap.size, 6, none⟩ = some (.int .i64 rx) := G0.out.cell 6
            have cG07 : W1.cell? ⟨w.heap.size, 7, none⟩ = some (.int .i64 ry) := G0.out.cell 7
            have cG10 : W1.cell? ⟨w.heap.size + 1, 0, none⟩ = some (.int .i64 yx) := G1.out.cell 0
            have cG11 : W1.cell? ⟨w.heap.size + 1, 1, none⟩ = some (.int .i64 yy) := G1.out.cell 1
            go_wp2_with fail
            refine (C1.out _).mono ?_
            rintro e w1 ⟨rfl, hb1⟩
            clear cG00 cG01 cG02 cG03 cG04 cG05 cG06 cG07 cG10 cG11
            replace G0 := Lib.hid (G0.out.below hb1 G0.out.lt)
            replace G1 := Lib.hid (G1.out.below hb1 G1.out.lt)
            replace B := Lib.hid (bvia B.out hb1)
            clear hb1
            have cG00 : w1.cell? ⟨w.heap.size, 0, none⟩ = some (.int .i64 ox) := G0.out.cell 0
            have cG01 : w1.cell? ⟨w.heap.size, 1, none⟩ = some (.int .i64 oy) := G0.out.cell 1
            have cG02 : w1.cell? ⟨w.heap.size, 2, none⟩ = some (.int .i64 px) := G0.out.cell 2
            have cG03 : w1.cell? ⟨w.heap.size, 3, none⟩ = some (.int .i64 py) := G0.out.cell 3
            have cG04 : w1.cell? ⟨w.heap.size, 4, none⟩ = some (.int .i64 qx) := G0.out.cell 4
            have cG05 : w1.cell? ⟨w.heap.size, 5, none⟩ = some (.int .i64 qy) := G0.out.cell 5
            have cG06 : w1.cell? ⟨w.heap.size, 6, none⟩ = some (.int .i64 rx) := G0.out.cell 6
            have cG07 : w1.cell? ⟨w.heap.size, 7, none⟩ = some (.int .i64 ry) := G0.out.cell 7
            have cG10 : w1.cell? ⟨w.heap.size + 1, 0, none⟩ = some (.int .i64 yx) := G1.out.cell 0
            have cG11 : w1.cell? ⟨w.heap.size + 1, 1, none⟩ = some (.int .i64 yy) := G1.out.cell 1
            go_wp2_with fail
            refine (C2.out _).mono ?_
            rintro e w2 ⟨rfl, hb2⟩
            clear cG00 cG01 cG02 cG03 cG04 cG05 cG06 cG07 cG10 cG11
            replace G0 := Lib.hid (G0.out.below hb2 G0.out.lt)
            replace G1 := Lib.hid (G1.out.below hb2 G1.out.lt)
            replace B := Lib.hid (bvia B.out hb2)
            clear hb2
            have cG00 : w2.cell? ⟨w.heap.size, 0, none⟩ = some (.int .i64 ox) := G0.out.cell 0
            have cG01 : w2.cell? ⟨w.heap.size, 1, none⟩ = some (.int .i64 oy) := G0.out.cell 1
            have cG02 : w2.cell? ⟨w.heap.size, 2, none⟩ = some (.int .i64 px) := G0.out.cell 2
            have cG03 : w2.cell? ⟨w.heap.size, 3, none⟩ = some (.int .i64 py) := G0.out.cell 3
            have cG04 : w2.cell? ⟨w.heap.size, 4, none⟩ = some (.int .i64 qx) := G0.out.cell 4
            have cG05 : w2.cell? ⟨w.heap.size, 5, none⟩ = some (.int .i64 qy) := G0.out.cell 5
            have cG06 : w2.cell? ⟨w.heap.size, 6, none⟩ = some (.int .i64 rx) := G0.out.cell 6
            have cG07 : w2.cell? ⟨w.heap.size, 7, none⟩ = some (.int .i64 ry) := G0.out.cell 7
            have cG10 : w2.cell? ⟨w.heap.size + 1, 0, none⟩ = some (.int .i64 yx) := G1.out.cell 0
            have cG11 : w2.cell? ⟨w.heap.size + 1, 1, none⟩ = some (.int .i64 yy) := G1.out.cell 1
            go_wp2_with fail
            refine (C3.out _).mono ?_
            rintro e w3 ⟨rfl, hb3⟩
            clear cG00 cG01 cG02 cG03 cG04 cG05 cG06 cG07 cG10 cG11
            replace G0 := Lib.hid (G0.out.below hb3 G0.out.lt)
            replace G1 := Lib.hid (G1.out.below hb3 G1.out.lt)
            replace B := Lib.hid (bvia B.out hb3)
            clear hb3
            have cG00 : w3.cell? ⟨w.heap.size, 0, none⟩ = some (.int .i64 ox) := G0.out.cell 0
            have cG01 : w3.cell? ⟨w.heap.size, 1, none⟩ = some (.int .i64 oy) := G0.out.cell 1
            have cG02 : w3.cell? ⟨w.heap.size, 2, none⟩ = some (.int .i64 px) := G0.out.cell 2
            have cG03 : w3.cell? ⟨w.heap.size, 3, none⟩ = some (.int .i64 py) := G0.out.cell 3
            have cG04 : w3.cell? ⟨w.heap.size, 4, none⟩ = some (.int .i64 qx) := G0.out.cell 4
            have cG05 : w3.cell? ⟨w.heap.size, 5, none⟩ = some (.int .i64 qy) := G0.out.cell 5
            have cG06 : w3.cell? ⟨w.heap.size, 6, none⟩ = some (.int .i64 rx) := G0.out.cell 6
            have cG07 : w3.cell? ⟨w.heap.size, 7, none⟩ = some (.int .i64 ry) := G0.out.cell 7
            have cG10 : w3.cell? ⟨w.heap.size + 1, 0, none⟩ = some (.int .i64 yx) := G1.out.cell 0
            have cG11 : w3.cell? ⟨w.heap.size + 1, 1, none⟩ = some (.int .i64 yy) := G1.out.cell 1
            go_wp2_with fail
            refine (C4.out _).mono ?_
            rintro e w4 ⟨rfl, hb4⟩
            clear cG00 cG01 cG02 cG03 cG04 cG05 cG06 cG07 cG10 cG11
            replace G0 := Lib.hid (G0.out.below hb4 G0.out.lt)
            replace G1 := Lib.hid (G1.out.below hb4 G1.out.lt)
            replace B := Lib.hid (bvia B.out hb4)
            clear hb4
            have cG00 : w4.cell? ⟨w.heap.size, 0, none⟩ = some (.int .i64 ox) := G0.out.cell 0
            have cG01 : w4.cell? ⟨w.heap.size, 1, none⟩ = some (.int .i64 oy) := G0.out.cell 1
            have cG02 : w4.cell? ⟨w.heap.size, 2, none⟩ = some (.int .i64 px) := G0.out.cell 2
            have cG03 : w4.cell? ⟨w.heap.size, 3, none⟩ = some (.int .i64 py) := G0.out.cell 3
            have cG04 : w4.cell? ⟨w.heap.size, 4, none⟩ = some (.int .i64 qx) := G0.out.cell 4
            have cG05 : w4.cell? ⟨w.heap.size, 5, none⟩ = some (.int .i64 qy) := G0.out.cell 5
            have cG06 : w4.cell? ⟨w.heap.size, 6, none⟩ = some (.int .i64 rx) := G0.out.cell 6
            have cG07 : w4.cell? ⟨w.heap.size, 7, none⟩ = some (.int .i64 ry) := G0.out.cell 7
            have cG10 : w4.cell? ⟨w.heap.size + 1, 0, none⟩ = some (.int .i64 yx) := G1.out.cell 0
            have cG11 : w4.cell? ⟨w.heap.size + 1, 1, none⟩ = some (.int .i64 yy) := G1.out.cell 1
            go_wp2_with fail
            refine (C5.out _).mono ?_
            rintro e w5 ⟨rfl, hb5⟩
            clear cG00 cG01 cG02 cG03 cG04 cG05 cG06 cG07 cG10 cG11
            replace G0 := Lib.hid (G0.out.below hb5 G0.out.lt)
            replace G1 := Lib.hid (G1.out.below hb5 G1.out.lt)
            replace B := Lib.hid (bvia B.out hb5)
            clear hb5
            go_wp2_with fail
            go_wp2_with fail
            refine (awakeC _).mono ?_
            rintro e w6 ⟨rfl, hb6⟩
            replace G0 := Lib.hid (G0.out.below hb6 G0.out.lt)
            replace G1 := Lib.hid (G1.out.below hb6 G1.out.lt)
            replace B := Lib.hid (bvia B.out hb6)
            clear hb6
            go_wp2
            go_ret
            exact ⟨rfl, B.out⟩
end Go.Proofs.Ytmghpaibdgkbfaa
