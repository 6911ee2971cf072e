/-
  Contract of chapter 6: Compose, the document's.
-/
import Derived.Test.YtmghpaibdgkbfaaVA4
import Derived.Test.YtmghpaibdgkbfaaVA12
import Derived.Deep.CutRange
namespace Go.Proofs.Ytmghpaibdgkbfaa
open Go.RowKit
set_option maxRecDepth 100000 in
set_option maxHeartbeats 4000000 in
theorem rcomposeC (a b c d u v p q r s x y : Int) (w : World) : Calls Try.prog 38 #[vV a b c d u v, vV p q r s x y] w fun e w' => e = .returned (.tuple #[(compR a b c d u v p q r s x y).1, .int .i64 (compR a b c d u v p q r s x y).2]) ∧ Below w.heap.size w w' := by
  have CM := Lib.hid (fun W => rmoveC a b c d u v W)
  have CN := Lib.hid (fun W => rmoveC p q r s x y W)
  unfold compR
  cases hV : okV a b c d u v with
  | false =>
    rw [hV] at CM
    rw [if_neg (fun h => absurd h.1 (by decide))]
    clear hV CN
    have G0 : Hid (Has (boxW w [([.int .i64 a, .int .i64 b, .int .i64 c, .int .i64 d, .int .i64 u, .int .i64 v], 58), ([.int .i64 p, .int .i64 q, .int .i64 r, .int .i64 s, .int .i64 x, .int .i64 y], 58), ([.int .i64 0, .int .i64 0, .int .i64 0, .int .i64 0, .int .i64 0, .int .i64 0], 58)]) (w.heap.size) 58 [.int .i64 a, .int .i64 b, .int .i64 c, .int .i64 d, .int .i64 u, .int .i64 v]) := box_has [([.int .i64 a, .int .i64 b, .int .i64 c, .int .i64 d, .int .i64 u, .int .i64 v], 58), ([.int .i64 p, .int .i64 q, .int .i64 r, .int .i64 s, .int .i64 x, .int .i64 y], 58), ([.int .i64 0, .int .i64 0, .int .i64 0, .int .i64 0, .int .i64 0, .int .i64 0], 58)] (w := w) (Below.refl _ _) (i := 0) rfl
    have G1 : Hid (Has (boxW w [([.int .i64 a, .int .i64 b, .int .i64 c, .int .i64 d, .int .i64 u, .int .i64 v], 58), ([.int .i64 p, .int .i64 q, .int .i64 r, .int .i64 s, .int .i64 x, .int .i64 y], 58), ([.int .i64 0, .int .i64 0, .int .i64 0, .int .i64 0, .int .i64 0, .int .i64 0], 58)]) (w.heap.size + 1) 58 [.int .i64 p, .int .i64 q, .int .i64 r, .int .i64 s, .int .i64 x, .int .i64 y]) := box_has [([.int .i64 a, .int .i64 b, .int .i64 c, .int .i64 d, .int .i64 u, .int .i64 v], 58), ([.int .i64 p, .int .i64 q, .int .i64 r, .int .i64 s, .int .i64 x, .int .i64 y], 58), ([.int .i64 0, .int .i64 0, .int .i64 0, .int .i64 0, .int .i64 0, .int .i64 0], 58)] (w := w) (Below.refl _ _) (i := 1) rfl
    have G2 : Hid (Has (boxW w [([.int .i64 a, .int .i64 b, .int .i64 c, .int .i64 d, .int .i64 u, .int .i64 v], 58), ([.int .i64 p, .int .i64 q, .int .i64 r, .int .i64 s, .int .i64 x, .int .i64 y], 58), ([.int .i64 0, .int .i64 0, .int .i64 0, .int .i64 0, .int .i64 0, .int .i64 0], 58)]) (w.heap.size + 1 + 1) 58 [.int .i64 0, .int .i64 0, .int .i64 0, .int .i64 0, .int .i64 0, .int .i64 0]) := box_has [([.int .i64 a, .int .i64 b, .int .i64 c, .int .i64 d, .int .i64 u, .int .i64 v], 58), ([.int .i64 p, .int .i64 q, .int .i64 r, .int .i64 s, .int .i64 x, .int .i64 y], 58), ([.int .i64 0, .int .i64 0, .int .i64 0, .int .i64 0, .int .i64 0, .int .i64 0], 58)] (w := w) (Below.refl _ _) (i := 2) rfl
    have B := Lib.hid (boxW_below [([.int .i64 a, .int .i64 b, .int .i64 c, .int .i64 d, .int .i64 u, .int .i64 v], 58), ([.int .i64 p, .int .i64 q, .int .i64 r, .int .i64 s, .int .i64 x, .int .i64 y], 58), ([.int .i64 0, .int .i64 0, .int .i64 0, .int .i64 0, .int .i64 0, .int .i64 0], 58)] w)
    obtain ⟨W1, hW1⟩ : ∃ W1, W1 = boxW w [([.int .i64 a, .int .i64 b, .int .i64 c, .int .i64 d, .int .i64 u, .int .i64 v], 58), ([.int .i64 p, .int .i64 q, .int .i64 r, .int .i64 s, .int .i64 x, .int .i64 y], 58), ([.int .i64 0, .int .i64 0, .int .i64 0, .int .i64 0, .int .i64 0, .int .i64 0], 58)] := ⟨_, rfl⟩
    rw [← hW1] at G0 G1 G2 B
    go_enter Try.func38, Try.ntmps38
    go_upto_region 1 with (fail)
    rw [show ((w.alloc (.cells #[.int .i64 a, .int .i64 b, .int .i64 c, .int .i64 d, .int .i64 u, .int .i64 v] 58)).alloc (.cells #[.int .i64 p, .int .i64 q, .int .i64 r, .int .i64 s, .int .i64 x, .int .i64 y] 58)).alloc (.cells #[.int .i64 0, .int .i64 0, .int .i64 0, .int .i64 0, .int .i64 0, .int .i64 0] 58) = W1 from hW1.symm]
    clear hW1
    have cG00 : W1.cell? ⟨w.heap.size, 0, none⟩ = some (.int .i64 a) := G0.out.cell 0
    have cG01 : W1.cell? ⟨w.heap.size, 1, none⟩ = some (.int .i64 b) := G0.out.cell 1
    have cG02 : W1.cell? ⟨w.heap.size, 2, none⟩ = some (.int .i64 c) := G0.out.cell 2
    have cG03 : W1.cell? ⟨w.heap.size, 3, none⟩ = some (.int .i64 d) := G0.out.cell 3
    have cG04 : W1.cell? ⟨w.heap.size, 4, none⟩ = some (.int .i64 u) := G0.out.cell 4
    have cG05 : W1.cell? ⟨w.heap.size, 5, none⟩ = some (.int .i64 v) := G0.out.cell 5
    have cG10 : W1.cell? ⟨w.heap.size + 1, 0, none⟩ = some (.int .i64 p) := G1.out.cell 0
    have cG11 : W1.cell? ⟨w.heap.size + 1, 1, none⟩ = some (.int .i64 q) := G1.out.cell 1
    have cG12 : W1.cell? ⟨w.heap.size + 1, 2, none⟩ = some (.int .i64 r) := G1.out.cell 2
    have cG13 : W1.cell? ⟨w.heap.size + 1, 3, none⟩ = some (.int .i64 s) := G1.out.cell 3
    have cG14 : W1.cell? ⟨w.heap.size + 1, 4, none⟩ = some (.int .i64 x) := G1.out.cell 4
    have cG15 : W1.cell? ⟨w.heap.size + 1, 5, none⟩ = some (.int .i64 y) := G1.out.cell 5
    have cG20 : W1.cell? ⟨w.heap.size + 1 + 1, 0, none⟩ = some (.int .i64 0) := G2.out.cell 0
    have cG21 : W1.cell? ⟨w.heap.size + 1 + 1, 1, none⟩ = some (.int .i64 0) := G2.out.cell 1
    have cG22 : W1.cell? ⟨w.heap.size + 1 + 1, 2, none⟩ = some (.int .i64 0) := G2.out.cell 2
    have cG23 : W1.cell? ⟨w.heap.size + 1 + 1, 3, none⟩ = some (.int .i64 0) := G2.out.cell 3
    have cG24 : W1.cell? ⟨w.heap.size + 1 + 1, 4, none⟩ = some (.int .i64 0) := G2.out.cell 4
    have cG25 : W1.cell? ⟨w.heap.size + 1 + 1, 5, none⟩ = some (.int .i64 0) := G2.out.cell 5
    go_wp2_with fail
    refine (CM.out _).mono ?_
    rintro e w1 ⟨rfl, hb1⟩
    clear cG00 cG01 cG02 cG03 cG04 cG05 cG10 cG11 cG12 cG13 cG14 cG15 cG20 cG21 cG22 cG23 cG24 cG25
    replace G0 := Lib.hid (G0.out.below hb1 G0.out.lt)
    replace G1 := Lib.hid (G1.out.below hb1 G1.out.lt)
    replace G2 := Lib.hid (G2.out.below hb1 G2.out.lt)
    replace B := Lib.hid (bvia B.out hb1)
    clear hb1
    have cG20 : w1.cell? ⟨w.heap.size + 1 + 1, 0, none⟩ = some (.int .i64 0) := G2.out.cell 0
    have fG20 : w1.frozen? ⟨w.heap.size + 1 + 1, 0, none⟩ = false := G2.out.free 0
    have cG21 : w1.cell? ⟨w.heap.size + 1 + 1, 1, none⟩ = some (.int .i64 0) := G2.out.cell 1
    have fG21 : w1.frozen? ⟨w.heap.size + 1 + 1, 1, none⟩ = false := G2.out.free 1
    have cG22 : w1.cell? ⟨w.heap.size + 1 + 1, 2, none⟩ = some (.int .i64 0) := G2.out.cell 2
    have fG22 : w1.frozen? ⟨w.heap.size + 1 + 1, 2, none⟩ = false := G2.out.free 2
    have cG23 : w1.cell? ⟨w.heap.size + 1 + 1, 3, none⟩ = some (.int .i64 0) := G2.out.cell 3
    have fG23 : w1.frozen? ⟨w.heap.size + 1 + 1, 3, none⟩ = false := G2.out.free 3
    have cG24 : w1.cell? ⟨w.heap.size + 1 + 1, 4, none⟩ = some (.int .i64 0) := G2.out.cell 4
    have fG24 : w1.frozen? ⟨w.heap.size + 1 + 1, 4, none⟩ = false := G2.out.free 4
    have cG25 : w1.cell? ⟨w.heap.size + 1 + 1, 5, none⟩ = some (.int .i64 0) := G2.out.cell 5
    have fG25 : w1.frozen? ⟨w.heap.size + 1 + 1, 5, none⟩ = false := G2.out.free 5
    go_wp2
    refine post_cell_tmp (g := w.heap.size + 1 + 1) (t := 58) (cs := [.int .i64 0, .int .i64 0, .int .i64 0, .int .i64 0, .int .i64 0, .int .i64 0]) (v := .int .i64 2) ?_ Try.results38 rfl rfl rfl Try.underlying58 (by kernel_rfl) ⟨rfl, ?_⟩
    · exact ((((((G2.out.set 0 _).set 1 _).set 2 _).set 3 _).set 4 _).set 5 _)
    · exact ((((((B.out.setCell (p := ⟨w.heap.size + 1 + 1, 0, none⟩) (show w.heap.size ≤ w.heap.size + 1 + 1 by omega) _).setCell (p := ⟨w.heap.size + 1 + 1, 1, none⟩) (show w.heap.size ≤ w.heap.size + 1 + 1 by omega) _).setCell (p := ⟨w.heap.size + 1 + 1, 2, none⟩) (show w.heap.size ≤ w.heap.size + 1 + 1 by omega) _).setCell (p := ⟨w.heap.size + 1 + 1, 3, none⟩) (show w.heap.size ≤ w.heap.size + 1 + 1 by omega) _).setCell (p := ⟨w.heap.size + 1 + 1, 4, none⟩) (show w.heap.size ≤ w.heap.size + 1 + 1 by omega) _).setCell (p := ⟨w.heap.size + 1 + 1, 5, none⟩) (show w.heap.size ≤ w.heap.size + 1 + 1 by omega) _)
  | true =>
  rw [hV] at CM
  cases hN : okV p q r s x y with
  | false =>
    rw [hN] at CN
    rw [if_neg (fun h => absurd h.2 (by decide))]
    clear hV hN
    have G0 : Hid (Has (boxW w [([.int .i64 a, .int .i64 b, .int .i64 c, .int .i64 d, .int .i64 u, .int .i64 v], 58), ([.int .i64 p, .int .i64 q, .int .i64 r, .int .i64 s, .int .i64 x, .int .i64 y], 58), ([.int .i64 0, .int .i64 0, .int .i64 0, .int .i64 0, .int .i64 0, .int .i64 0], 58)]) (w.heap.size) 58 [.int .i64 a, .int .i64 b, .int .i64 c, .int .i64 d, .int .i64 u, .int .i64 v]) := box_has [([.int .i64 a, .int .i64 b, .int .i64 c, .int .i64 d, .int .i64 u, .int .i64 v], 58), ([.int .i64 p, .int .i64 q, .int .i64 r, .int .i64 s, .int .i64 x, .int .i64 y], 58), ([.int .i64 0, .int .i64 0, .int .i64 0, .int .i64 0, .int .i64 0, .int .i64 0], 58)] (w := w) (Below.refl _ _) (i := 0) rfl
    have G1 : Hid (Has (boxW w [([.int .i64 a, .int .i64 b, .int .i64 c, .int .i64 d, .int .i64 u, .int .i64 v], 58), ([.int .i64 p, .int .i64 q, .int .i64 r, .int .i64 s, .int .i64 x, .int .i64 y], 58), ([.int .i64 0, .int .i64 0, .int .i64 0, .int .i64 0, .int .i64 0, .int .i64 0], 58)]) (w.heap.size + 1) 58 [.int .i64 p, .int .i64 q, .int .i64 r, .int .i64 s, .int .i64 x, .int .i64 y]) := box_has [([.int .i64 a, .int .i64 b, .int .i64 c, .int .i64 d, .int .i64 u, .int .i64 v], 58), ([.int .i64 p, .int .i64 q, .int .i64 r, .int .i64 s, .int .i64 x, .int .i64 y], 58), ([.int .i64 0, .int .i64 0, .int .i64 0, .int .i64 0, .int .i64 0, .int .i64 0], 58)] (w := w) (Below.refl _ _) (i := 1) rfl
    have G2 : Hid (Has (boxW w [([.int .i64 a, .int .i64 b, .int .i64 c, .int .i64 d, .int .i64 u, .int .i64 v], 58), ([.int .i64 p, .int .i64 q, .int .i64 r, .int .i64 s, .int .i64 x, .int .i64 y], 58), ([.int .i64 0, .int .i64 0, .int .i64 0, .int .i64 0, .int .i64 0, .int .i64 0], 58)]) (w.heap.size + 1 + 1) 58 [.int .i64 0, .int .i64 0, .int .i64 0, .int .i64 0, .int .i64 0, .int .i64 0]) := box_has [([.int .i64 a, .int .i64 b, .int .i64 c, .int .i64 d, .int .i64 u, .int .i64 v], 58), ([.int .i64 p, .int .i64 q, .int .i64 r, .int .i64 s, .int .i64 x, .int .i64 y], 58), ([.int .i64 0, .int .i64 0, .int .i64 0, .int .i64 0, .int .i64 0, .int .i64 0], 58)] (w := w) (Below.refl _ _) (i := 2) rfl
    have B := Lib.hid (boxW_below [([.int .i64 a, .int .i64 b, .int .i64 c, .int .i64 d, .int .i64 u, .int .i64 v], 58), ([.int .i64 p, .int .i64 q, .int .i64 r, .int .i64 s, .int .i64 x, .int .i64 y], 58), ([.int .i64 0, .int .i64 0, .int .i64 0, .int .i64 0, .int .i64 0, .int .i64 0], 58)] w)
    obtain ⟨W1, hW1⟩ : ∃ W1, W1 = boxW w [([.int .i64 a, .int .i64 b, .int .i64 c, .int .i64 d, .int .i64 u, .int .i64 v], 58), ([.int .i64 p, .int .i64 q, .int .i64 r, .int .i64 s, .int .i64 x, .int .i64 y], 58), ([.int .i64 0, .int .i64 0, .int .i64 0, .int .i64 0, .int .i64 0, .int .i64 0], 58)] := ⟨_, rfl⟩
    rw [← hW1] at G0 G1 G2 B
    go_enter Try.func38, Try.ntmps38
    go_upto_region 1 with (fail)
    rw [show ((w.alloc (.cells #[.int .i64 a, .int .i64 b, .int .i64 c, .int .i64 d, .int .i64 u, .int .i64 v] 58)).alloc (.cells #[.int .i64 p, .int .i64 q, .int .i64 r, .int .i64 s, .int .i64 x, .int .i64 y] 58)).alloc (.cells #[.int .i64 0, .int .i64 0, .int .i64 0, .int .i64 0, .int .i64 0, .int .i64 0] 58) = W1 from hW1.symm]
    clear hW1
    have cG00 : W1.cell? ⟨w.heap.size, 0, none⟩ = some (.int .i64 a) := G0.out.cell 0
    have cG01 : W1.cell? ⟨w.heap.size, 1, none⟩ = some (.int .i64 b) := G0.out.cell 1
    have cG02 : W1.cell? ⟨w.heap.size, 2, none⟩ = some (.int .i64 c) := G0.out.cell 2
    have cG03 : W1.cell? ⟨w.heap.size, 3, none⟩ = some (.int .i64 d) := G0.out.cell 3
    have cG04 : W1.cell? ⟨w.heap.size, 4, none⟩ = some (.int .i64 u) := G0.out.cell 4
    have cG05 : W1.cell? ⟨w.heap.size, 5, none⟩ = some (.int .i64 v) := G0.out.cell 5
    have cG10 : W1.cell? ⟨w.heap.size + 1, 0, none⟩ = some (.int .i64 p) := G1.out.cell 0
    have cG11 : W1.cell? ⟨w.heap.size + 1, 1, none⟩ = some (.int .i64 q) := G1.out.cell 1
    have cG12 : W1.cell? ⟨w.heap.size + 1, 2, none⟩ = some (.int .i64 r) := G1.out.cell 2
    have cG13 : W1.cell? ⟨w.heap.size + 1, 3, none⟩ = some (.int .i64 s) := G1.out.cell 3
    have cG14 : W1.cell? ⟨w.heap.size + 1, 4, none⟩ = some (.int .i64 x) := G1.out.cell 4
    have cG15 : W1.cell? ⟨w.heap.size + 1, 5, none⟩ = some (.int .i64 y) := G1.out.cell 5
    have cG20 : W1.cell? ⟨w.heap.size + 1 + 1, 0, none⟩ = some (.int .i64 0) := G2.out.cell 0
    have cG21 : W1.cell? ⟨w.heap.size + 1 + 1, 1, none⟩ = some (.int .i64 0) := G2.out.cell 1
    have cG22 : W1.cell? ⟨w.heap.size + 1 + 1, 2, none⟩ = some (.int .i64 0) := G2.out.cell 2
    have cG23 : W1.cell? ⟨w.heap.size + 1 + 1, 3, none⟩ = some (.int .i64 0) := G2.out.cell 3
    have cG24 : W1.cell? ⟨w.heap.size + 1 + 1, 4, none⟩ = some (.int .i64 0) := G2.out.cell 4
    have cG25 : W1.cell? ⟨w.heap.size + 1 + 1, 5, none⟩ = some (.int .i64 0) := G2.out.cell 5
    go_wp2_with fail
    refine (CM.out _).mono ?_
    rintro e w1 ⟨rfl, hb1⟩
    clear cG00 cG01 cG02 cG03 cG04 cG05 cG10 cG11 cG12 cG13 cG14 cG15 cG20 cG21 cG22 cG23 cG24 cG25
    replace G0 := Lib.hid (G0.out.below hb1 G0.out.lt)
    replace G1 := Lib.hid (G1.out.below hb1 G1.out.lt)
    replace G2 := Lib.hid (G2.out.below hb1 G2.out.lt)
    replace B := Lib.hid (bvia B.out hb1)
    clear hb1
    have cG00 : w1.cell? ⟨w.heap.size, 0, none⟩ = some (.int .i64 a) := G0.out.cell 0
    have cG01 : w1.cell? ⟨w.heap.size, 1, none⟩ = some (.int .i64 b) := G0.out.cell 1
    have cG02 : w1.cell? ⟨w.heap.size, 2, none⟩ = some (.int .i64 c) := G0.out.cell 2
    have cG03 : w1.cell? ⟨w.heap.size, 3, none⟩ = some (.int .i64 d) := G0.out.cell 3
    have cG04 : w1.cell? ⟨w.heap.size, 4, none⟩ = some (.int .i64 u) := G0.out.cell 4
    have cG05 : w1.cell? ⟨w.heap.size, 5, none⟩ = some (.int .i64 v) := G0.out.cell 5
    have cG10 : w1.cell? ⟨w.heap.size + 1, 0, none⟩ = some (.int .i64 p) := G1.out.cell 0
    have cG11 : w1.cell? ⟨w.heap.size + 1, 1, none⟩ = some (.int .i64 q) := G1.out.cell 1
    have cG12 : w1.cell? ⟨w.heap.size + 1, 2, none⟩ = some (.int .i64 r) := G1.out.cell 2
    have cG13 : w1.cell? ⟨w.heap.size + 1, 3, none⟩ = some (.int .i64 s) := G1.out.cell 3
    have cG14 : w1.cell? ⟨w.heap.size + 1, 4, none⟩ = some (.int .i64 x) := G1.out.cell 4
    have cG15 : w1.cell? ⟨w.heap.size + 1, 5, none⟩ = some (.int .i64 y) := G1.out.cell 5
    have cG20 : w1.cell? ⟨w.heap.size + 1 + 1, 0, none⟩ = some (.int .i64 0) := G2.out.cell 0
    have cG21 : w1.cell? ⟨w.heap.size + 1 + 1, 1, none⟩ = some (.int .i64 0) := G2.out.cell 1
    have cG22 : w1.cell? ⟨w.heap.size + 1 + 1, 2, none⟩ = some (.int .i64 0) := G2.out.cell 2
    have cG23 : w1.cell? ⟨w.heap.size + 1 + 1, 3, none⟩ = some (.int .i64 0) := G2.out.cell 3
    have cG24 : w1.cell? ⟨w.heap.size + 1 + 1, 4, none⟩ = some (.int .i64 0) := G2.out.cell 4
    have cG25 : w1.cell? ⟨w.heap.size + 1 + 1, 5, none⟩ = some (.int .i64 0) := G2.out.cell 5
    go_wp2_with fail
    refine (CN.out _).mono ?_
    rintro e w2 ⟨rfl, hb2⟩
    clear cG00 cG01 cG02 cG03 cG04 cG05 cG10 cG11 cG12 cG13 cG14 cG15 cG20 cG21 cG22 cG23 cG24 cG25
    replace G0 := Lib.hid (G0.out.below hb2 G0.out.lt)
    replace G1 := Lib.hid (G1.out.below hb2 G1.out.lt)
    replace G2 := Lib.hid (G2.out.below hb2 G2.out.lt)
    replace B := Lib.hid (bvia B.out hb2)
    clear hb2
    have cG20 : w2.cell? ⟨w.heap.size + 1 + 1, 0, none⟩ = some (.int .i64 0) := G2.out.cell 0
    have fG20 : w2.frozen? ⟨w.heap.size + 1 + 1, 0, none⟩ = false := G2.out.free 0
    have cG21 : w2.cell? ⟨w.heap.size + 1 + 1, 1, none⟩ = some (.int .i64 0) := G2.out.cell 1
    have fG21 : w2.frozen? ⟨w.heap.size + 1 + 1, 1, none⟩ = false := G2.out.free 1
    have cG22 : w2.cell? ⟨w.heap.size + 1 + 1, 2, none⟩ = some (.int .i64 0) := G2.out.cell 2
    have fG22 : w2.frozen? ⟨w.heap.size + 1 + 1, 2, none⟩ = false := G2.out.free 2
    have cG23 : w2.cell? ⟨w.heap.size + 1 + 1, 3, none⟩ = some (.int .i64 0) := G2.out.cell 3
    have fG23 : w2.frozen? ⟨w.heap.size + 1 + 1, 3, none⟩ = false := G2.out.free 3
    have cG24 : w2.cell? ⟨w.heap.size + 1 + 1, 4, none⟩ = some (.int .i64 0) := G2.out.cell 4
    have fG24 : w2.frozen? ⟨w.heap.size + 1 + 1, 4, none⟩ = false := G2.out.free 4
    have cG25 : w2.cell? ⟨w.heap.size + 1 + 1, 5, none⟩ = some (.int .i64 0) := G2.out.cell 5
    have fG25 : w2.frozen? ⟨w.heap.size + 1 + 1, 5, none⟩ = false := G2.out.free 5
    go_wp2
    refine post_cell_tmp (g := w.heap.size + 1 + 1) (t := 58) (cs := [.int .i64 0, .int .i64 0, .int .i64 0, .int .i64 0, .int .i64 0, .int .i64 0]) (v := .int .i64 2) ?_ Try.results38 rfl rfl rfl Try.underlying58 (by kernel_rfl) ⟨rfl, ?_⟩
    · exact ((((((G2.out.set 0 _).set 1 _).set 2 _).set 3 _).set 4 _).set 5 _)
    · exact ((((((B.out.setCell (p := ⟨w.heap.size + 1 + 1, 0, none⟩) (show w.heap.size ≤ w.heap.size + 1 + 1 by omega) _).setCell (p := ⟨w.heap.size + 1 + 1, 1, none⟩) (show w.heap.size ≤ w.heap.size + 1 + 1 by omega) _).setCell (p := ⟨w.heap.size + 1 + 1, 2, none⟩) (show w.heap.size ≤ w.heap.size + 1 + 1 by omega) _).setCell (p := ⟨w.heap.size + 1 + 1, 3, none⟩) (show w.heap.size ≤ w.heap.size + 1 + 1 by omega) _).setCell (p := ⟨w.heap.size + 1 + 1, 4, none⟩) (show w.heap.size ≤ w.heap.size + 1 + 1 by omega) _).setCell (p := ⟨w.heap.size + 1 + 1, 5, none⟩) (show w.heap.size ≤ w.heap.size + 1 + 1 by omega) _)
  | true =>
  rw [hN] at CN
  rw [if_pos ⟨rfl, rfl⟩]
  obtain ⟨⟨ha, hb, hc, hd⟩, hu, hv⟩ := (okV_iff a b c d u v).1 hV
  obtain ⟨⟨hp, hq, hr, hs⟩, hx, hy⟩ := (okV_iff p q r s x y).1 hN
  have hxy : okP x y = true := by unfold okV at hN; rw [Bool.and_eq_true] at hN; exact hN.2
  have CT := Lib.hid (fun W => rtimesC a b c d p q r s 10000 10000 W ha hb hc hd hp hq hr hs (by decide))
  have CI := Lib.hid (fun W => rappC a b c d u v x y W hV hxy)
  clear ha hb hc hd hu hv hp hq hr hs hx hy hV hN hxy
  generalize a * p + b * r = A1 at *
  generalize a * q + b * s = A2 at *
  generalize c * p + d * r = A3 at *
  generalize c * q + d * s = A4 at *
  generalize imX a b u x y = A5 at *
  generalize imX c d v x y = A6 at *
  have CV := Lib.hid (fun W => rmoveC A1 A2 A3 A4 A5 A6 W)
  cases hO : okV A1 A2 A3 A4 A5 A6 with
  | false =>
    rw [hO] at CV
    rw [if_neg (by decide)]
    clear hO
    have G0 : Hid (Has (boxW w [([.int .i64 a, .int .i64 b, .int .i64 c, .int .i64 d, .int .i64 u, .int .i64 v], 58), ([.int .i64 p, .int .i64 q, .int .i64 r, .int .i64 s, .int .i64 x, .int .i64 y], 58), ([.int .i64 0, .int .i64 0, .int .i64 0, .int .i64 0, .int .i64 0, .int .i64 0], 58)]) (w.heap.size) 58 [.int .i64 a, .int .i64 b, .int .i64 c, .int .i64 d, .int .i64 u, .int .i64 v]) := box_has [([.int .i64 a, .int .i64 b, .int .i64 c, .int .i64 d, .int .i64 u, .int .i64 v], 58), ([.int .i64 p, .int .i64 q, .int .i64 r, .int .i64 s, .int .i64 x, .int .i64 y], 58), ([.int .i64 0, .int .i64 0, .int .i64 0, .int .i64 0, .int .i64 0, .int .i64 0], 58)] (w := w) (Below.refl _ _) (i := 0) rfl
    have G1 : Hid (Has (boxW w [([.int .i64 a, .int .i64 b, .int .i64 c, .int .i64 d, .int .i64 u, .int .i64 v], 58), ([.int .i64 p, .int .i64 q, .int .i64 r, .int .i64 s, .int .i64 x, .int .i64 y], 58), ([.int .i64 0, .int .i64 0, .int .i64 0, .int .i64 0, .int .i64 0, .int .i64 0], 58)]) (w.heap.size + 1) 58 [.int .i64 p, .int .i64 q, .int .i64 r, .int .i64 s, .int .i64 x, .int .i64 y]) := box_has [([.int .i64 a, .int .i64 b, .int .i64 c, .int .i64 d, .int .i64 u, .int .i64 v], 58), ([.int .i64 p, .int .i64 q, .int .i64 r, .int .i64 s, .int .i64 x, .int .i64 y], 58), ([.int .i64 0, .int .i64 0, .int .i64 0, .int .i64 0, .int .i64 0, .int .i64 0], 58)] (w := w) (Below.refl _ _) (i := 1) rfl
    have G2 : Hid (Has (boxW w [([.int .i64 a, .int .i64 b, .int .i64 c, .int .i64 d, .int .i64 u, .int .i64 v], 58), ([.int .i64 p, .int .i64 q, .int .i64 r, .int .i64 s, .int .i64 x, .int .i64 y], 58), ([.int .i64 0, .int .i64 0, .int .i64 0, .int .i64 0, .int .i64 0, .int .i64 0], 58)]) (w.heap.size + 1 + 1) 58 [.int .i64 0, .int .i64 0, .int .i64 0, .int .i64 0, .int .i64 0, .int .i64 0]) := box_has [([.int .i64 a, .int .i64 b, .int .i64 c, .int .i64 d, .int .i64 u, .int .i64 v], 58), ([.int .i64 p, .int .i64 q, .int .i64 r, .int .i64 s, .int .i64 x, .int .i64 y], 58), ([.int .i64 0, .int .i64 0, .int .i64 0, .int .i64 0, .int .i64 0, .int .i64 0], 58)] (w := w) (Below.refl _ _) (i := 2) rfl
    have B := Lib.hid (boxW_below [([.int .i64 a, .int .i64 b, .int .i64 c, .int .i64 d, .int .i64 u, .int .i64 v], 58), ([.int .i64 p, .int .i64 q, .int .i64 r, .int .i64 s, .int .i64 x, .int .i64 y], 58), ([.int .i64 0, .int .i64 0, .int .i64 0, .int .i64 0, .int .i64 0, .int .i64 0], 58)] w)
    obtain ⟨W1, hW1⟩ : ∃ W1, W1 = boxW w [([.int .i64 a, .int .i64 b, .int .i64 c, .int .i64 d, .int .i64 u, .int .i64 v], 58), ([.int .i64 p, .int .i64 q, .int .i64 r, .int .i64 s, .int .i64 x, .int .i64 y], 58), ([.int .i64 0, .int .i64 0, .int .i64 0, .int .i64 0, .int .i64 0, .int .i64 0], 58)] := ⟨_, rfl⟩
    rw [← hW1] at G0 G1 G2 B
    go_enter Try.func38, Try.ntmps38
    go_upto_region 1 with (fail)
    rw [show ((w.alloc (.cells #[.int .i64 a, .int .i64 b, .int .i64 c, .int .i64 d, .int .i64 u, .int .i64 v] 58)).alloc (.cells #[.int .i64 p, .int .i64 q, .int .i64 r, .int .i64 s, .int .i64 x, .int .i64 y] 58)).alloc (.cells #[.int .i64 0, .int .i64 0, .int .i64 0, .int .i64 0, .int .i64 0, .int .i64 0] 58) = W1 from hW1.symm]
    clear hW1
    have cG00 : W1.cell? ⟨w.heap.size, 0, none⟩ = some (.int .i64 a) := G0.out.cell 0
    have cG01 : W1.cell? ⟨w.heap.size, 1, none⟩ = some (.int .i64 b) := G0.out.cell 1
    have cG02 : W1.cell? ⟨w.heap.size, 2, none⟩ = some (.int .i64 c) := G0.out.cell 2
    have cG03 : W1.cell? ⟨w.heap.size, 3, none⟩ = some (.int .i64 d) := G0.out.cell 3
    have cG04 : W1.cell? ⟨w.heap.size, 4, none⟩ = some (.int .i64 u) := G0.out.cell 4
    have cG05 : W1.cell? ⟨w.heap.size, 5, none⟩ = some (.int .i64 v) := G0.out.cell 5
    have cG10 : W1.cell? ⟨w.heap.size + 1, 0, none⟩ = some (.int .i64 p) := G1.out.cell 0
    have cG11 : W1.cell? ⟨w.heap.size + 1, 1, none⟩ = some (.int .i64 q) := G1.out.cell 1
    have cG12 : W1.cell? ⟨w.heap.size + 1, 2, none⟩ = some (.int .i64 r) := G1.out.cell 2
    have cG13 : W1.cell? ⟨w.heap.size + 1, 3, none⟩ = some (.int .i64 s) := G1.out.cell 3
    have cG14 : W1.cell? ⟨w.heap.size + 1, 4, none⟩ = some (.int .i64 x) := G1.out.cell 4
    have cG15 : W1.cell? ⟨w.heap.size + 1, 5, none⟩ = some (.int .i64 y) := G1.out.cell 5
    have cG20 : W1.cell? ⟨w.heap.size + 1 + 1, 0, none⟩ = some (.int .i64 0) := G2.out.cell 0
    have cG21 : W1.cell? ⟨w.heap.size + 1 + 1, 1, none⟩ = some (.int .i64 0) := G2.out.cell 1
    have cG22 : W1.cell? ⟨w.heap.size + 1 + 1, 2, none⟩ = some (.int .i64 0) := G2.out.cell 2
    have cG23 : W1.cell? ⟨w.heap.size + 1 + 1, 3, none⟩ = some (.int .i64 0) := G2.out.cell 3
    have cG24 : W1.cell? ⟨w.heap.size + 1 + 1, 4, none⟩ = some (.int .i64 0) := G2.out.cell 4
    have cG25 : W1.cell? ⟨w.heap.size + 1 + 1, 5, none⟩ = some (.int .i64 0) := G2.out.cell 5
    go_wp2_with fail
    refine (CM.out _).mono ?_
    rintro e w1 ⟨rfl, hb1⟩
    clear cG00 cG01 cG02 cG03 cG04 cG05 cG10 cG11 cG12 cG13 cG14 cG15 cG20 cG21 cG22 cG23 cG24 cG25
    replace G0 := Lib.hid (G0.out.below hb1 G0.out.lt)
    replace G1 := Lib.hid (G1.out.below hb1 G1.out.lt)
    replace G2 := Lib.hid (G2.out.below hb1 G2.out.lt)
    replace B := Lib.hid (bvia B.out hb1)
    clear hb1
    have cG00 : w1.cell? ⟨w.heap.size, 0, none⟩ = some (.int .i64 a) := G0.out.cell 0
    have cG01 : w1.cell? ⟨w.heap.size, 1, none⟩ = some (.int .i64 b) := G0.out.cell 1
    have cG02 : w1.cell? ⟨w.heap.size, 2, none⟩ = some (.int .i64 c) := G0.out.cell 2
    have cG03 : w1.cell? ⟨w.heap.size, 3, none⟩ = some (.int .i64 d) := G0.out.cell 3
    have cG04 : w1.cell? ⟨w.heap.size, 4, none⟩ = some (.int .i64 u) := G0.out.cell 4
    have cG05 : w1.cell? ⟨w.heap.size, 5, none⟩ = some (.int .i64 v) := G0.out.cell 5
    have cG10 : w1.cell? ⟨w.heap.size + 1, 0, none⟩ = some (.int .i64 p) := G1.out.cell 0
    have cG11 : w1.cell? ⟨w.heap.size + 1, 1, none⟩ = some (.int .i64 q) := G1.out.cell 1
    have cG12 : w1.cell? ⟨w.heap.size + 1, 2, none⟩ = some (.int .i64 r) := G1.out.cell 2
    have cG13 : w1.cell? ⟨w.heap.size + 1, 3, none⟩ = some (.int .i64 s) := G1.out.cell 3
    have cG14 : w1.cell? ⟨w.heap.size + 1, 4, none⟩ = some (.int .i64 x) := G1.out.cell 4
    have cG15 : w1.cell? ⟨w.heap.size + 1, 5, none⟩ = some (.int .i64 y) := G1.out.cell 5
    have cG20 : w1.cell? ⟨w.heap.size + 1 + 1, 0, none⟩ = some (.int .i64 0) := G2.out.cell 0
    have cG21 : w1.cell? ⟨w.heap.size + 1 + 1, 1, none⟩ = some (.int .i64 0) := G2.out.cell 1
    have cG22 : w1.cell? ⟨w.heap.size + 1 + 1, 2, none⟩ = some (.int .i64 0) := G2.out.cell 2
    have cG23 : w1.cell? ⟨w.heap.size + 1 + 1, 3, none⟩ = some (.int .i64 0) := G2.out.cell 3
    have cG24 : w1.cell? ⟨w.heap.size + 1 + 1, 4, none⟩ = some (.int .i64 0) := G2.out.cell 4
    have cG25 : w1.cell? ⟨w.heap.size + 1 + 1, 5, none⟩ = some (.int .i64 0) := G2.out.cell 5
    go_wp2_with fail
    refine (CN.out _).mono ?_
    rintro e w2 ⟨rfl, hb2⟩
    clear cG00 cG01 cG02 cG03 cG04 cG05 cG10 cG11 cG12 cG13 cG14 cG15 cG20 cG21 cG22 cG23 cG24 cG25
    replace G0 := Lib.hid (G0.out.below hb2 G0.out.lt)
    replace G1 := Lib.hid (G1.out.below hb2 G1.out.lt)
    replace G2 := Lib.hid (G2.out.below hb2 G2.out.lt)
    replace B := Lib.hid (bvia B.out hb2)
    clear hb2
    have Q2 : Hid (w.heap.size + 1 + 1 < w2.heap.size) := G2.out.lt
    go_upto_region 3 with (fail)
    refine wp_region_news [.q, .q, .q, .q, .q, .q, .q, .q, .q, .q, .mk 0, .st 0] [⟨6, 25, none, 58, [.int .i64 0, .int .i64 0, .int .i64 0, .int .i64 0, .int .i64 0, .int .i64 0], [.int .i64 A1, .int .i64 A2, .int .i64 A3, .int .i64 A4, .int .i64 A5, .int .i64 A6], .agg #[.int .i64 A1, .int .i64 A2, .int .i64 A3, .int .i64 A4, .int .i64 A5, .int .i64 A6]⟩] ?aH0 (by kernel_rfl) (by kernel_rfl) (by simp) (by simp) ?hq0 ?hv0 ?hA0 ?he0
    case hq0 =>
      intro w5 h5
      have g0 := G0.out.below h5 G0.out.lt
      have g1 := G1.out.below h5 G1.out.lt
      have c00 : w5.cell? ⟨w.heap.size, 0, none⟩ = some (.int .i64 a) := g0.cell 0
      have c01 : w5.cell? ⟨w.heap.size, 1, none⟩ = some (.int .i64 b) := g0.cell 1
      have c02 : w5.cell? ⟨w.heap.size, 2, none⟩ = some (.int .i64 c) := g0.cell 2
      have c03 : w5.cell? ⟨w.heap.size, 3, none⟩ = some (.int .i64 d) := g0.cell 3
      have c04 : w5.cell? ⟨w.heap.size, 4, none⟩ = some (.int .i64 u) := g0.cell 4
      have c05 : w5.cell? ⟨w.heap.size, 5, none⟩ = some (.int .i64 v) := g0.cell 5
      have c10 : w5.cell? ⟨w.heap.size + 1, 0, none⟩ = some (.int .i64 p) := g1.cell 0
      have c11 : w5.cell? ⟨w.heap.size + 1, 1, none⟩ = some (.int .i64 q) := g1.cell 1
      have c12 : w5.cell? ⟨w.heap.size + 1, 2, none⟩ = some (.int .i64 r) := g1.cell 2
      have c13 : w5.cell? ⟨w.heap.size + 1, 3, none⟩ = some (.int .i64 s) := g1.cell 3
      have c14 : w5.cell? ⟨w.heap.size + 1, 4, none⟩ = some (.int .i64 x) := g1.cell 4
      have c15 : w5.cell? ⟨w.heap.size + 1, 5, none⟩ = some (.int .i64 y) := g1.cell 5
      have q0 : w.heap.size < w5.heap.size := g0.lt
      have q1 : w.heap.size + 1 < w5.heap.size := g1.lt
      have hxc := fun (x : Ext w5) => x.cell
      clear g0 g1
      show wpQuiet _ _ _ _ [_, _, _, _, _, _, _, _, _, _] _
      repeat (go_big_quiet_step ((first | (go_at_call 45; exact ext_call (CT.out _)) | (go_at_call 79; exact ext_call (CI.out _)))))
      refine wpQuiet_nil ?_
      rfl
    case hv0 => simp
    case hA0 =>
      refine ⟨fun x hx => ?_, fun x hx => ?_, trivial⟩ <;> (obtain rfl := Option.some.inj hx)
      · exact fun b W => by go_simp
      · exact stOk_agg rfl rfl (by kernel_rfl) rfl (by kernel_rfl)
    case he0 =>
      intro bs w5 hb5 hH _
      obtain ⟨KP, hKP⟩ : ∃ KP, KP = bs 0 := ⟨_, rfl⟩
      have HP := hH 0 _ rfl
      clear hH
      simp only [putN, Nat.zero_add, ← hKP, Act.put, List.setIfInBounds_toArray, List.set_cons_zero, List.set_cons_succ] at HP ⊢
      clear hKP
      replace G0 := Lib.hid (G0.out.below hb5 G0.out.lt)
      replace G1 := Lib.hid (G1.out.below hb5 G1.out.lt)
      replace G2 := Lib.hid (G2.out.below hb5 G2.out.lt)
      have hne : w.heap.size + 1 + 1 ≠ KP := by
        have h1 := HP.2
        have h2 := Q2.out
        omega
      replace B := Lib.hid (bvia B.out hb5)
      have GP : Hid (Has w5 KP 58 [.int .i64 A1, .int .i64 A2, .int .i64 A3, .int .i64 A4, .int .i64 A5, .int .i64 A6]) := HP.1
      clear HP hb5 CM CN CT CI
      have cG20 : w5.cell? ⟨w.heap.size + 1 + 1, 0, none⟩ = some (.int .i64 0) := G2.out.cell 0
      have cG21 : w5.cell? ⟨w.heap.size + 1 + 1, 1, none⟩ = some (.int .i64 0) := G2.out.cell 1
      have cG22 : w5.cell? ⟨w.heap.size + 1 + 1, 2, none⟩ = some (.int .i64 0) := G2.out.cell 2
      have cG23 : w5.cell? ⟨w.heap.size + 1 + 1, 3, none⟩ = some (.int .i64 0) := G2.out.cell 3
      have cG24 : w5.cell? ⟨w.heap.size + 1 + 1, 4, none⟩ = some (.int .i64 0) := G2.out.cell 4
      have cG25 : w5.cell? ⟨w.heap.size + 1 + 1, 5, none⟩ = some (.int .i64 0) := G2.out.cell 5
      have cGP0 : w5.cell? ⟨KP, 0, none⟩ = some (.int .i64 A1) := GP.out.cell 0
      have cGP1 : w5.cell? ⟨KP, 1, none⟩ = some (.int .i64 A2) := GP.out.cell 1
      have cGP2 : w5.cell? ⟨KP, 2, none⟩ = some (.int .i64 A3) := GP.out.cell 2
      have cGP3 : w5.cell? ⟨KP, 3, none⟩ = some (.int .i64 A4) := GP.out.cell 3
      have cGP4 : w5.cell? ⟨KP, 4, none⟩ = some (.int .i64 A5) := GP.out.cell 4
      have cGP5 : w5.cell? ⟨KP, 5, none⟩ = some (.int .i64 A6) := GP.out.cell 5
      go_wp2_with fail
      refine (CV.out _).mono ?_
      rintro e w6 ⟨rfl, hb6⟩
      clear cG20 cG21 cG22 cG23 cG24 cG25 cGP0 cGP1 cGP2 cGP3 cGP4 cGP5
      replace G2 := Lib.hid (G2.out.below hb6 G2.out.lt)
      replace GP := Lib.hid (GP.out.below hb6 GP.out.lt)
      replace B := Lib.hid (bvia B.out hb6)
      clear hb6
      have cG20 : w6.cell? ⟨w.heap.size + 1 + 1, 0, none⟩ = some (.int .i64 0) := G2.out.cell 0
      have fG20 : w6.frozen? ⟨w.heap.size + 1 + 1, 0, none⟩ = false := G2.out.free 0
      have cG21 : w6.cell? ⟨w.heap.size + 1 + 1, 1, none⟩ = some (.int .i64 0) := G2.out.cell 1
      have fG21 : w6.frozen? ⟨w.heap.size + 1 + 1, 1, none⟩ = false := G2.out.free 1
      have cG22 : w6.cell? ⟨w.heap.size + 1 + 1, 2, none⟩ = some (.int .i64 0) := G2.out.cell 2
      have fG22 : w6.frozen? ⟨w.heap.size + 1 + 1, 2, none⟩ = false := G2.out.free 2
      have cG23 : w6.cell? ⟨w.heap.size + 1 + 1, 3, none⟩ = some (.int .i64 0) := G2.out.cell 3
      have fG23 : w6.frozen? ⟨w.heap.size + 1 + 1, 3, none⟩ = false := G2.out.free 3
      have cG24 : w6.cell? ⟨w.heap.size + 1 + 1, 4, none⟩ = some (.int .i64 0) := G2.out.cell 4
      have fG24 : w6.frozen? ⟨w.heap.size + 1 + 1, 4, none⟩ = false := G2.out.free 4
      have cG25 : w6.cell? ⟨w.heap.size + 1 + 1, 5, none⟩ = some (.int .i64 0) := G2.out.cell 5
      have fG25 : w6.frozen? ⟨w.heap.size + 1 + 1, 5, none⟩ = false := G2.out.free 5
      go_wp2
      refine post_cell_tmp (g := w.heap.size + 1 + 1) (t := 58) (cs := [.int .i64 0, .int .i64 0, .int .i64 0, .int .i64 0, .int .i64 0, .int .i64 0]) (v := .int .i64 7) ?_ Try.results38 rfl rfl rfl Try.underlying58 (by kernel_rfl) ⟨rfl, ?_⟩
      · exact ((((((G2.out.set 0 _).set 1 _).set 2 _).set 3 _).set 4 _).set 5 _)
      · exact ((((((B.out.setCell (p := ⟨w.heap.size + 1 + 1, 0, none⟩) (show w.heap.size ≤ w.heap.size + 1 + 1 by omega) _).setCell (p := ⟨w.heap.size + 1 + 1, 1, none⟩) (show w.heap.size ≤ w.heap.size + 1 + 1 by omega) _).setCell (p := ⟨w.heap.size + 1 + 1, 2, none⟩) (show w.heap.size ≤ w.heap.size + 1 + 1 by omega) _).setCell (p := ⟨w.heap.size + 1 + 1, 3, none⟩) (show w.heap.size ≤ w.heap.size + 1 + 1 by omega) _).setCell (p := ⟨w.heap.size + 1 + 1, 4, none⟩) (show w.heap.size ≤ w.heap.size + 1 + 1 by omega) _).setCell (p := ⟨w.heap.size + 1 + 1, 5, none⟩) (show w.heap.size ≤ w.heap.size + 1 + 1 by omega) _)
  | true =>
    rw [hO] at CV
    rw [if_pos rfl]
    clear hO
    have G0 : Hid (Has (boxW w [([.int .i64 a, .int .i64 b, .int .i64 c, .int .i64 d, .int .i64 u, .int .i64 v], 58), ([.int .i64 p, .int .i64 q, .int .i64 r, .int .i64 s, .int .i64 x, .int .i64 y], 58), ([.int .i64 0, .int .i64 0, .int .i64 0, .int .i64 0, .int .i64 0, .int .i64 0], 58)]) (w.heap.size) 58 [.int .i64 a, .int .i64 b, .int .i64 c, .int .i64 d, .int .i64 u, .int .i64 v]) := box_has [([.int .i64 a, .int .i64 b, .int .i64 c, .int .i64 d, .int .i64 u, .int .i64 v], 58), ([.int .i64 p, .int .i64 q, .int .i64 r, .int .i64 s, .int .i64 x, .int .i64 y], 58), ([.int .i64 0, .int .i64 0, .int .i64 0, .int .i64 0, .int .i64 0, .int .i64 0], 58)] (w := w) (Below.refl _ _) (i := 0) rfl
    have G1 : Hid (Has (boxW w [([.int .i64 a, .int .i64 b, .int .i64 c, .int .i64 d, .int .i64 u, .int .i64 v], 58), ([.int .i64 p, .int .i64 q, .int .i64 r, .int .i64 s, .int .i64 x, .int .i64 y], 58), ([.int .i64 0, .int .i64 0, .int .i64 0, .int .i64 0, .int .i64 0, .int .i64 0], 58)]) (w.heap.size + 1) 58 [.int .i64 p, .int .i64 q, .int .i64 r, .int .i64 s, .int .i64 x, .int .i64 y]) := box_has [([.int .i64 a, .int .i64 b, .int .i64 c, .int .i64 d, .int .i64 u, .int .i64 v], 58), ([.int .i64 p, .int .i64 q, .int .i64 r, .int .i64 s, .int .i64 x, .int .i64 y], 58), ([.int .i64 0, .int .i64 0, .int .i64 0, .int .i64 0, .int .i64 0, .int .i64 0], 58)] (w := w) (Below.refl _ _) (i := 1) rfl
    have G2 : Hid (Has (boxW w [([.int .i64 a, .int .i64 b, .int .i64 c, .int .i64 d, .int .i64 u, .int .i64 v], 58), ([.int .i64 p, .int .i64 q, .int .i64 r, .int .i64 s, .int .i64 x, .int .i64 y], 58), ([.int .i64 0, .int .i64 0, .int .i64 0, .int .i64 0, .int .i64 0, .int .i64 0], 58)]) (w.heap.size + 1 + 1) 58 [.int .i64 0, .int .i64 0, .int .i64 0, .int .i64 0, .int .i64 0, .int .i64 0]) := box_has [([.int .i64 a, .int .i64 b, .int .i64 c, .int .i64 d, .int .i64 u, .int .i64 v], 58), ([.int .i64 p, .int .i64 q, .int .i64 r, .int .i64 s, .int .i64 x, .int .i64 y], 58), ([.int .i64 0, .int .i64 0, .int .i64 0, .int .i64 0, .int .i64 0, .int .i64 0], 58)] (w := w) (Below.refl _ _) (i := 2) rfl
    have B := Lib.hid (boxW_below [([.int .i64 a, .int .i64 b, .int .i64 c, .int .i64 d, .int .i64 u, .int .i64 v], 58), ([.int .i64 p, .int .i64 q, .int .i64 r, .int .i64 s, .int .i64 x, .int .i64 y], 58), ([.int .i64 0, .int .i64 0, .int .i64 0, .int .i64 0, .int .i64 0, .int .i64 0], 58)] w)
    obtain ⟨W1, hW1⟩ : ∃ W1, W1 = boxW w [([.int .i64 a, .int .i64 b, .int .i64 c, .int .i64 d, .int .i64 u, .int .i64 v], 58), ([.int .i64 p, .int .i64 q, .int .i64 r, .int .i64 s, .int .i64 x, .int .i64 y], 58), ([.int .i64 0, .int .i64 0, .int .i64 0, .int .i64 0, .int .i64 0, .int .i64 0], 58)] := ⟨_, rfl⟩
    rw [← hW1] at G0 G1 G2 B
    go_enter Try.func38, Try.ntmps38
    go_upto_region 1 with (fail)
    rw [show ((w.alloc (.cells #[.int .i64 a, .int .i64 b, .int .i64 c, .int .i64 d, .int .i64 u, .int .i64 v] 58)).alloc (.cells #[.int .i64 p, .int .i64 q, .int .i64 r, .int .i64 s, .int .i64 x, .int .i64 y] 58)).alloc (.cells #[.int .i64 0, .int .i64 0, .int .i64 0, .int .i64 0, .int .i64 0, .int .i64 0] 58) = W1 from hW1.symm]
    clear hW1
    have cG00 : W1.cell? ⟨w.heap.size, 0, none⟩ = some (.int .i64 a) := G0.out.cell 0
    have cG01 : W1.cell? ⟨w.heap.size, 1, none⟩ = some (.int .i64 b) := G0.out.cell 1
    have cG02 : W1.cell? ⟨w.heap.size, 2, none⟩ = some (.int .i64 c) := G0.out.cell 2
    have cG03 : W1.cell? ⟨w.heap.size, 3, none⟩ = some (.int .i64 d) := G0.out.cell 3
    have cG04 : W1.cell? ⟨w.heap.size, 4, none⟩ = some (.int .i64 u) := G0.out.cell 4
    have cG05 : W1.cell? ⟨w.heap.size, 5, none⟩ = some (.int .i64 v) := G0.out.cell 5
    have cG10 : W1.cell? ⟨w.heap.size + 1, 0, none⟩ = some (.int .i64 p) := G1.out.cell 0
    have cG11 : W1.cell? ⟨w.heap.size + 1, 1, none⟩ = some (.int .i64 q) := G1.out.cell 1
    have cG12 : W1.cell? ⟨w.heap.size + 1, 2, none⟩ = some (.int .i64 r) := G1.out.cell 2
    have cG13 : W1.cell? ⟨w.heap.size + 1, 3, none⟩ = some (.int .i64 s) := G1.out.cell 3
    have cG14 : W1.cell? ⟨w.heap.size + 1, 4, none⟩ = some (.int .i64 x) := G1.out.cell 4
    have cG15 : W1.cell? ⟨w.heap.size + 1, 5, none⟩ = some (.int .i64 y) := G1.out.cell 5
    have cG20 : W1.cell? ⟨w.heap.size + 1 + 1, 0, none⟩ = some (.int .i64 0) := G2.out.cell 0
    have cG21 : W1.cell? ⟨w.heap.size + 1 + 1, 1, none⟩ = some (.int .i64 0) := G2.out.cell 1
    have cG22 : W1.cell? ⟨w.heap.size + 1 + 1, 2, none⟩ = some (.int .i64 0) := G2.out.cell 2
    have cG23 : W1.cell? ⟨w.heap.size + 1 + 1, 3, none⟩ = some (.int .i64 0) := G2.out.cell 3
    have cG24 : W1.cell? ⟨w.heap.size + 1 + 1, 4, none⟩ = some (.int .i64 0) := G2.out.cell 4
    have cG25 : W1.cell? ⟨w.heap.size + 1 + 1, 5, none⟩ = some (.int .i64 0) := G2.out.cell 5
    go_wp2_with fail
    refine (CM.out _).mono ?_
    rintro e w1 ⟨rfl, hb1⟩
    clear cG00 cG01 cG02 cG03 cG04 cG05 cG10 cG11 cG12 cG13 cG14 cG15 cG20 cG21 cG22 cG23 cG24 cG25
    replace G0 := Lib.hid (G0.out.below hb1 G0.out.lt)
    replace G1 := Lib.hid (G1.out.below hb1 G1.out.lt)
    replace G2 := Lib.hid (G2.out.below hb1 G2.out.lt)
    replace B := Lib.hid (bvia B.out hb1)
    clear hb1
    have cG00 : w1.cell? ⟨w.heap.size, 0, none⟩ = some (.int .i64 a) := G0.out.cell 0
    have cG01 : w1.cell? ⟨w.heap.size, 1, none⟩ = some (.int .i64 b) := G0.out.cell 1
    have cG02 : w1.cell? ⟨w.heap.size, 2, none⟩ = some (.int .i64 c) := G0.out.cell 2
    have cG03 : w1.cell? ⟨w.heap.size, 3, none⟩ = some (.int .i64 d) := G0.out.cell 3
    have cG04 : w1.cell? ⟨w.heap.size, 4, none⟩ = some (.int .i64 u) := G0.out.cell 4
    have cG05 : w1.cell? ⟨w.heap.size, 5, none⟩ = some (.int .i64 v) := G0.out.cell 5
    have cG10 : w1.cell? ⟨w.heap.size + 1, 0, none⟩ = some (.int .i64 p) := G1.out.cell 0
    have cG11 : w1.cell? ⟨w.heap.size + 1, 1, none⟩ = some (.int .i64 q) := G1.out.cell 1
    have cG12 : w1.cell? ⟨w.heap.size + 1, 2, none⟩ = some (.int .i64 r) := G1.out.cell 2
    have cG13 : w1.cell? ⟨w.heap.size + 1, 3, none⟩ = some (.int .i64 s) := G1.out.cell 3
    have cG14 : w1.cell? ⟨w.heap.size + 1, 4, none⟩ = some (.int .i64 x) := G1.out.cell 4
    have cG15 : w1.cell? ⟨w.heap.size + 1, 5, none⟩ = some (.int .i64 y) := G1.out.cell 5
    have cG20 : w1.cell? ⟨w.heap.size + 1 + 1, 0, none⟩ = some (.int .i64 0) := G2.out.cell 0
    have cG21 : w1.cell? ⟨w.heap.size + 1 + 1, 1, none⟩ = some (.int .i64 0) := G2.out.cell 1
    have cG22 : w1.cell? ⟨w.heap.size + 1 + 1, 2, none⟩ = some (.int .i64 0) := G2.out.cell 2
    have cG23 : w1.cell? ⟨w.heap.size + 1 + 1, 3, none⟩ = some (.int .i64 0) := G2.out.cell 3
    have cG24 : w1.cell? ⟨w.heap.size + 1 + 1, 4, none⟩ = some (.int .i64 0) := G2.out.cell 4
    have cG25 : w1.cell? ⟨w.heap.size + 1 + 1, 5, none⟩ = some (.int .i64 0) := G2.out.cell 5
    go_wp2_with fail
    refine (CN.out _).mono ?_
    rintro e w2 ⟨rfl, hb2⟩
    clear cG00 cG01 cG02 cG03 cG04 cG05 cG10 cG11 cG12 cG13 cG14 cG15 cG20 cG21 cG22 cG23 cG24 cG25
    replace G0 := Lib.hid (G0.out.below hb2 G0.out.lt)
    replace G1 := Lib.hid (G1.out.below hb2 G1.out.lt)
    replace G2 := Lib.hid (G2.out.below hb2 G2.out.lt)
    replace B := Lib.hid (bvia B.out hb2)
    clear hb2
    have Q2 : Hid (w.heap.size + 1 + 1 < w2.heap.size) := G2.out.lt
    go_upto_region 3 with (fail)
    refine wp_region_news [.q, .q, .q, .q, .q, .q, .q, .q, .q, .q, .mk 0, .st 0] [⟨6, 25, none, 58, [.int .i64 0, .int .i64 0, .int .i64 0, .int .i64 0, .int .i64 0, .int .i64 0], [.int .i64 A1, .int .i64 A2, .int .i64 A3, .int .i64 A4, .int .i64 A5, .int .i64 A6], .agg #[.int .i64 A1, .int .i64 A2, .int .i64 A3, .int .i64 A4, .int .i64 A5, .int .i64 A6]⟩] ?aH1 (by kernel_rfl) (by kernel_rfl) (by simp) (by simp) ?hq1 ?hv1 ?hA1 ?he1
    case hq1 =>
      intro w5 h5
      have g0 := G0.out.below h5 G0.out.lt
      have g1 := G1.out.below h5 G1.out.lt
      have c00 : w5.cell? ⟨w.heap.size, 0, none⟩ = some (.int .i64 a) := g0.cell 0
      have c01 : w5.cell? ⟨w.heap.size, 1, none⟩ = some (.int .i64 b) := g0.cell 1
      have c02 : w5.cell? ⟨w.heap.size, 2, none⟩ = some (.int .i64 c) := g0.cell 2
      have c03 : w5.cell? ⟨w.heap.size, 3, none⟩ = some (.int .i64 d) := g0.cell 3
      have c04 : w5.cell? ⟨w.heap.size, 4, none⟩ = some (.int .i64 u) := g0.cell 4
      have c05 : w5.cell? ⟨w.heap.size, 5, none⟩ = some (.int .i64 v) := g0.cell 5
      have c10 : w5.cell? ⟨w.heap.size + 1, 0, none⟩ = some (.int .i64 p) := g1.cell 0
      have c11 : w5.cell? ⟨w.heap.size + 1, 1, none⟩ = some (.int .i64 q) := g1.cell 1
      have c12 : w5.cell? ⟨w.heap.size + 1, 2, none⟩ = some (.int .i64 r) := g1.cell 2
      have c13 : w5.cell? ⟨w.heap.size + 1, 3, none⟩ = some (.int .i64 s) := g1.cell 3
      have c14 : w5.cell? ⟨w.heap.size + 1, 4, none⟩ = some (.int .i64 x) := g1.cell 4
      have c15 : w5.cell? ⟨w.heap.size + 1, 5, none⟩ = some (.int .i64 y) := g1.cell 5
      have q0 : w.heap.size < w5.heap.size := g0.lt
      have q1 : w.heap.size + 1 < w5.heap.size := g1.lt
      have hxc := fun (x : Ext w5) => x.cell
      clear g0 g1
      show wpQuiet _ _ _ _ [_, _, _, _, _, _, _, _, _, _] _
      repeat (go_big_quiet_step ((first | (go_at_call 45; exact ext_call (CT.out _)) | (go_at_call 79; exact ext_call (CI.out _)))))
      refine wpQuiet_nil ?_
      rfl
    case hv1 => simp
    case hA1 =>
      refine ⟨fun x hx => ?_, fun x hx => ?_, trivial⟩ <;> (obtain rfl := Option.some.inj hx)
      · exact fun b W => by go_simp
      · exact stOk_agg rfl rfl (by kernel_rfl) rfl (by kernel_rfl)
    case he1 =>
      intro bs w5 hb5 hH _
      obtain ⟨KP, hKP⟩ : ∃ KP, KP = bs 0 := ⟨_, rfl⟩
      have HP := hH 0 _ rfl
      clear hH
      simp only [putN, Nat.zero_add, ← hKP, Act.put, List.setIfInBounds_toArray, List.set_cons_zero, List.set_cons_succ] at HP ⊢
      clear hKP
      replace G0 := Lib.hid (G0.out.below hb5 G0.out.lt)
      replace G1 := Lib.hid (G1.out.below hb5 G1.out.lt)
      replace G2 := Lib.hid (G2.out.below hb5 G2.out.lt)
      have hne : w.heap.size + 1 + 1 ≠ KP := by
        have h1 := HP.2
        have h2 := Q2.out
        omega
      replace B := Lib.hid (bvia B.out hb5)
      have GP : Hid (Has w5 KP 58 [.int .i64 A1, .int .i64 A2, .int .i64 A3, .int .i64 A4, .int .i64 A5, .int .i64 A6]) := HP.1
      clear HP hb5 CM CN CT CI
      have cG20 : w5.cell? ⟨w.heap.size + 1 + 1, 0, none⟩ = some (.int .i64 0) := G2.out.cell 0
      have cG21 : w5.cell? ⟨w.heap.size + 1 + 1, 1, none⟩ = some (.int .i64 0) := G2.out.cell 1
      have cG22 : w5.cell? ⟨w.heap.size + 1 + 1, 2, none⟩ = some (.int .i64 0) := G2.out.cell 2
      have cG23 : w5.cell? ⟨w.heap.size + 1 + 1, 3, none⟩ = some (.int .i64 0) := G2.out.cell 3
      have cG24 : w5.cell? ⟨w.heap.size + 1 + 1, 4, none⟩ = some (.int .i64 0) := G2.out.cell 4
      have cG25 : w5.cell? ⟨w.heap.size + 1 + 1, 5, none⟩ = some (.int .i64 0) := G2.out.cell 5
      have cGP0 : w5.cell? ⟨KP, 0, none⟩ = some (.int .i64 A1) := GP.out.cell 0
      have cGP1 : w5.cell? ⟨KP, 1, none⟩ = some (.int .i64 A2) := GP.out.cell 1
      have cGP2 : w5.cell? ⟨KP, 2, none⟩ = some (.int .i64 A3) := GP.out.cell 2
      have cGP3 : w5.cell? ⟨KP, 3, none⟩ = some (.int .i64 A4) := GP.out.cell 3
      have cGP4 : w5.cell? ⟨KP, 4, none⟩ = some (.int .i64 A5) := GP.out.cell 4
      have cGP5 : w5.cell? ⟨KP, 5, none⟩ = some (.int .i64 A6) := GP.out.cell 5
      go_wp2_with fail
      refine (CV.out _).mono ?_
      rintro e w6 ⟨rfl, hb6⟩
      clear cG20 cG21 cG22 cG23 cG24 cG25 cGP0 cGP1 cGP2 cGP3 cGP4 cGP5
      replace G2 := Lib.hid (G2.out.below hb6 G2.out.lt)
      replace GP := Lib.hid (GP.out.below hb6 GP.out.lt)
      replace B := Lib.hid (bvia B.out hb6)
      clear hb6
      have cG20 : w6.cell? ⟨w.heap.size + 1 + 1, 0, none⟩ = some (.int .i64 0) := G2.out.cell 0
      have fG20 : w6.frozen? ⟨w.heap.size + 1 + 1, 0, none⟩ = false := G2.out.free 0
      have cG21 : w6.cell? ⟨w.heap.size + 1 + 1, 1, none⟩ = some (.int .i64 0) := G2.out.cell 1
      have fG21 : w6.frozen? ⟨w.heap.size + 1 + 1, 1, none⟩ = false := G2.out.free 1
      have cG22 : w6.cell? ⟨w.heap.size + 1 + 1, 2, none⟩ = some (.int .i64 0) := G2.out.cell 2
      have fG22 : w6.frozen? ⟨w.heap.size + 1 + 1, 2, none⟩ = false := G2.out.free 2
      have cG23 : w6.cell? ⟨w.heap.size + 1 + 1, 3, none⟩ = some (.int .i64 0) := G2.out.cell 3
      have fG23 : w6.frozen? ⟨w.heap.size + 1 + 1, 3, none⟩ = false := G2.out.free 3
      have cG24 : w6.cell? ⟨w.heap.size + 1 + 1, 4, none⟩ = some (.int .i64 0) := G2.out.cell 4
      have fG24 : w6.frozen? ⟨w.heap.size + 1 + 1, 4, none⟩ = false := G2.out.free 4
      have cG25 : w6.cell? ⟨w.heap.size + 1 + 1, 5, none⟩ = some (.int .i64 0) := G2.out.cell 5
      have fG25 : w6.frozen? ⟨w.heap.size + 1 + 1, 5, none⟩ = false := G2.out.free 5
      have cGP0 : w6.cell? ⟨KP, 0, none⟩ = some (.int .i64 A1) := GP.out.cell 0
      have cGP1 : w6.cell? ⟨KP, 1, none⟩ = some (.int .i64 A2) := GP.out.cell 1
      have cGP2 : w6.cell? ⟨KP, 2, none⟩ = some (.int .i64 A3) := GP.out.cell 2
      have cGP3 : w6.cell? ⟨KP, 3, none⟩ = some (.int .i64 A4) := GP.out.cell 3
      have cGP4 : w6.cell? ⟨KP, 4, none⟩ = some (.int .i64 A5) := GP.out.cell 4
      have cGP5 : w6.cell? ⟨KP, 5, none⟩ = some (.int .i64 A6) := GP.out.cell 5
      go_wp2
      refine post_cell_tmp (g := w.heap.size + 1 + 1) (t := 58) (cs := [.int .i64 A1, .int .i64 A2, .int .i64 A3, .int .i64 A4, .int .i64 A5, .int .i64 A6]) (v := .int .i64 0) ?_ Try.results38 rfl rfl rfl Try.underlying58 (by kernel_rfl) ⟨rfl, ?_⟩
      · exact ((((((G2.out.set 0 _).set 1 _).set 2 _).set 3 _).set 4 _).set 5 _)
      · exact ((((((B.out.setCell (p := ⟨w.heap.size + 1 + 1, 0, none⟩) (show w.heap.size ≤ w.heap.size + 1 + 1 by omega) _).setCell (p := ⟨w.heap.size + 1 + 1, 1, none⟩) (show w.heap.size ≤ w.heap.size + 1 + 1 by omega) _).setCell (p := ⟨w.heap.size + 1 + 1, 2, none⟩) (show w.heap.size ≤ w.heap.size + 1 + 1 by omega) _).setCell (p := ⟨w.heap.size + 1 + 1, 3, none⟩) (show w.heap.size ≤ w.heap.size + 1 + 1 by omega) _).setCell (p := ⟨w.heap.size + 1 + 1, 4, none⟩) (show w.heap.size ≤ w.heap.size + 1 + 1 by omega) _).setCell (p := ⟨w.heap.size + 1 + 1, 5, none⟩) (show w.heap.size ≤ w.heap.size + 1 + 1 by omega) _)
end Go.Proofs.Ytmghpaibdgkbfaa
