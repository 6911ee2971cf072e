/-
  Contracts of chapter 6: valid, the program's.
-/
import Derived.Test.YtmghpaibdgkbfaaVA4
import Derived.Test.YtmghpaibdgkbfaaVA9
import Derived.Deep.CutRange
namespace Go.Proofs.Ytmghpaibdgkbfaa
open Go.RowKit
set_option maxRecDepth 100000 in
set_option maxHeartbeats 1000000 in
theorem validC (a b c d u v : Int) (w : World) : Calls Try.prog 80 #[vV a b c d u v] w fun e w' => e = .returned (.tuple #[if okV a b c d u v = true then vV a b c d u v else vV 0 0 0 0 0 0, .int .i64 (if okV a b c d u v = true then 0 else 7)]) ∧ Below w.heap.size w w' := by
  have CM := Lib.hid (fun W => moveC a b c d u v W)
  have F0 := Lib.hid (fun (W : World) (hb : Below (w.heap.size + 2) (boxW w [cV a b c d u v, cV 0 0 0 0 0 0]) W) => fun i z h => box_has [cV a b c d u v, cV 0 0 0 0 0 0] hb (i := i) (c := z) h)
  have S0 : Hid ((boxW w [cV a b c d u v, cV 0 0 0 0 0 0]).heap.size = w.heap.size + 2) := boxW_size [cV a b c d u v, cV 0 0 0 0 0 0] w
  have B0 := Lib.hid (boxW_below [cV a b c d u v, cV 0 0 0 0 0 0] w)
  cases hV : okV a b c d u v with
  | false =>
    rw [hV] at CM
    rw [if_neg (by decide), if_neg (by decide)]
    clear hV
    go_enter Try.func80, Try.ntmps80
    go_wp2_with fail
    refine (CM.out _).mono ?_
    rintro e w1 ⟨rfl, hb1⟩
    have B1 := Lib.hid (bvia B0.out hb1)
    have hb1' : Below (w.heap.size + 2) (boxW w [cV a b c d u v, cV 0 0 0 0 0 0]) w1 := by rw [← S0.out]; exact hb1
    have g0 := F0.out w1 hb1' 0 _ rfl
    have g1 := F0.out w1 hb1' 1 _ rfl
    have x0 : w1.cell? ⟨w.heap.size, 0, none⟩ = some (.int .i64 a) := g0.cell 0
    have x1 : w1.cell? ⟨w.heap.size, 1, none⟩ = some (.int .i64 b) := g0.cell 1
    have x2 : w1.cell? ⟨w.heap.size, 2, none⟩ = some (.int .i64 c) := g0.cell 2
    have x3 : w1.cell? ⟨w.heap.size, 3, none⟩ = some (.int .i64 d) := g0.cell 3
    have x4 : w1.cell? ⟨w.heap.size, 4, none⟩ = some (.int .i64 u) := g0.cell 4
    have x5 : w1.cell? ⟨w.heap.size, 5, none⟩ = some (.int .i64 v) := g0.cell 5
    have y0 : w1.cell? ⟨w.heap.size + 1, 0, none⟩ = some (.int .i64 0) := g1.cell 0
    have y1 : w1.cell? ⟨w.heap.size + 1, 1, none⟩ = some (.int .i64 0) := g1.cell 1
    have y2 : w1.cell? ⟨w.heap.size + 1, 2, none⟩ = some (.int .i64 0) := g1.cell 2
    have y3 : w1.cell? ⟨w.heap.size + 1, 3, none⟩ = some (.int .i64 0) := g1.cell 3
    have y4 : w1.cell? ⟨w.heap.size + 1, 4, none⟩ = some (.int .i64 0) := g1.cell 4
    have y5 : w1.cell? ⟨w.heap.size + 1, 5, none⟩ = some (.int .i64 0) := g1.cell 5
    have f0 : w1.frozen? ⟨w.heap.size + 1, 0, none⟩ = false := g1.free 0
    have f1 : w1.frozen? ⟨w.heap.size + 1, 1, none⟩ = false := g1.free 1
    have f2 : w1.frozen? ⟨w.heap.size + 1, 2, none⟩ = false := g1.free 2
    have f3 : w1.frozen? ⟨w.heap.size + 1, 3, none⟩ = false := g1.free 3
    have f4 : w1.frozen? ⟨w.heap.size + 1, 4, none⟩ = false := g1.free 4
    have f5 : w1.frozen? ⟨w.heap.size + 1, 5, none⟩ = false := g1.free 5
    have q1 : w.heap.size + 1 < w1.heap.size := g1.lt
    have G2 : Hid (Has w1 (w.heap.size + 1) 58 [.int .i64 0, .int .i64 0, .int .i64 0, .int .i64 0, .int .i64 0, .int .i64 0]) := g1
    clear hb1 hb1' g0 g1 F0 S0 B0 CM
    go_wp2
    refine post_cell_tmp (g := w.heap.size + 1) (t := 58) (cs := [.int .i64 0, .int .i64 0, .int .i64 0, .int .i64 0, .int .i64 0, .int .i64 0]) (v := .int .i64 7) ?_ rfl rfl rfl rfl Try.underlying58 (by kernel_rfl) ⟨rfl, ?_⟩
    · exact ((((((G2.out.set 0 _).set 1 _).set 2 _).set 3 _).set 4 _).set 5 _)
    · exact ((((((B1.out.setCell (p := ⟨w.heap.size + 1, 0, none⟩) (show w.heap.size ≤ w.heap.size + 1 by omega) _).setCell (p := ⟨w.heap.size + 1, 1, none⟩) (show w.heap.size ≤ w.heap.size + 1 by omega) _).setCell (p := ⟨w.heap.size + 1, 2, none⟩) (show w.heap.size ≤ w.heap.size + 1 by omega) _).setCell (p := ⟨w.heap.size + 1, 3, none⟩) (show w.heap.size ≤ w.heap.size + 1 by omega) _).setCell (p := ⟨w.heap.size + 1, 4, none⟩) (show w.heap.size ≤ w.heap.size + 1 by omega) _).setCell (p := ⟨w.heap.size + 1, 5, none⟩) (show w.heap.size ≤ w.heap.size + 1 by omega) _)
  | true =>
    rw [hV] at CM
    rw [if_pos rfl, if_pos rfl]
    clear hV
    go_enter Try.func80, Try.ntmps80
    go_wp2_with fail
    refine (CM.out _).mono ?_
    rintro e w1 ⟨rfl, hb1⟩
    have B1 := Lib.hid (bvia B0.out hb1)
    have hb1' : Below (w.heap.size + 2) (boxW w [cV a b c d u v, cV 0 0 0 0 0 0]) w1 := by rw [← S0.out]; exact hb1
    have g0 := F0.out w1 hb1' 0 _ rfl
    have g1 := F0.out w1 hb1' 1 _ rfl
    have x0 : w1.cell? ⟨w.heap.size, 0, none⟩ = some (.int .i64 a) := g0.cell 0
    have x1 : w1.cell? ⟨w.heap.size, 1, none⟩ = some (.int .i64 b) := g0.cell 1
    have x2 : w1.cell? ⟨w.heap.size, 2, none⟩ = some (.int .i64 c) := g0.cell 2
    have x3 : w1.cell? ⟨w.heap.size, 3, none⟩ = some (.int .i64 d) := g0.cell 3
    have x4 : w1.cell? ⟨w.heap.size, 4, none⟩ = some (.int .i64 u) := g0.cell 4
    have x5 : w1.cell? ⟨w.heap.size, 5, none⟩ = some (.int .i64 v) := g0.cell 5
    have y0 : w1.cell? ⟨w.heap.size + 1, 0, none⟩ = some (.int .i64 0) := g1.cell 0
    have y1 : w1.cell? ⟨w.heap.size + 1, 1, none⟩ = some (.int .i64 0) := g1.cell 1
    have y2 : w1.cell? ⟨w.heap.size + 1, 2, none⟩ = some (.int .i64 0) := g1.cell 2
    have y3 : w1.cell? ⟨w.heap.size + 1, 3, none⟩ = some (.int .i64 0) := g1.cell 3
    have y4 : w1.cell? ⟨w.heap.size + 1, 4, none⟩ = some (.int .i64 0) := g1.cell 4
    have y5 : w1.cell? ⟨w.heap.size + 1, 5, none⟩ = some (.int .i64 0) := g1.cell 5
    have f0 : w1.frozen? ⟨w.heap.size + 1, 0, none⟩ = false := g1.free 0
    have f1 : w1.frozen? ⟨w.heap.size + 1, 1, none⟩ = false := g1.free 1
    have f2 : w1.frozen? ⟨w.heap.size + 1, 2, none⟩ = false := g1.free 2
    have f3 : w1.frozen? ⟨w.heap.size + 1, 3, none⟩ = false := g1.free 3
    have f4 : w1.frozen? ⟨w.heap.size + 1, 4, none⟩ = false := g1.free 4
    have f5 : w1.frozen? ⟨w.heap.size + 1, 5, none⟩ = false := g1.free 5
    have q1 : w.heap.size + 1 < w1.heap.size := g1.lt
    have G2 : Hid (Has w1 (w.heap.size + 1) 58 [.int .i64 0, .int .i64 0, .int .i64 0, .int .i64 0, .int .i64 0, .int .i64 0]) := g1
    clear hb1 hb1' g0 g1 F0 S0 B0 CM
    go_wp2
    refine post_cell_tmp (g := w.heap.size + 1) (t := 58) (cs := [.int .i64 a, .int .i64 b, .int .i64 c, .int .i64 d, .int .i64 u, .int .i64 v]) (v := .int .i64 0) ?_ rfl rfl rfl rfl Try.underlying58 (by kernel_rfl) ⟨rfl, ?_⟩
    · exact ((((((G2.out.set 0 _).set 1 _).set 2 _).set 3 _).set 4 _).set 5 _)
    · exact ((((((B1.out.setCell (p := ⟨w.heap.size + 1, 0, none⟩) (show w.heap.size ≤ w.heap.size + 1 by omega) _).setCell (p := ⟨w.heap.size + 1, 1, none⟩) (show w.heap.size ≤ w.heap.size + 1 by omega) _).setCell (p := ⟨w.heap.size + 1, 2, none⟩) (show w.heap.size ≤ w.heap.size + 1 by omega) _).setCell (p := ⟨w.heap.size + 1, 3, none⟩) (show w.heap.size ≤ w.heap.size + 1 by omega) _).setCell (p := ⟨w.heap.size + 1, 4, none⟩) (show w.heap.size ≤ w.heap.size + 1 by omega) _).setCell (p := ⟨w.heap.size + 1, 5, none⟩) (show w.heap.size ≤ w.heap.size + 1 by omega) _)
end Go.Proofs.Ytmghpaibdgkbfaa
/-
  Contract of chapter 6: Compose, the program's.
-/
namespace Go.Proofs.Ytmghpaibdgkbfaa
open Go.RowKit
/-- one move behind another one: the numbers -/
def cmpQ (a b c d u v p q r s x y : Int) : Int × Int × Int × Int × Int × Int := (a * p + b * r, a * q + b * s, c * p + d * r, c * q + d * s, imX a b u x y, imX c d v x y)
def compR (a b c d u v p q r s x y : Int) : Value × Int :=
  if okV a b c d u v = true ∧ okV p q r s x y = true then (if okV (a * p + b * r) (a * q + b * s) (c * p + d * r) (c * q + d * s) (imX a b u x y) (imX c d v x y) = true then (vV (a * p + b * r) (a * q + b * s) (c * p + d * r) (c * q + d * s) (imX a b u x y) (imX c d v x y), 0) else (vV 0 0 0 0 0 0, 7)) else (vV 0 0 0 0 0 0, 2)
set_option maxRecDepth 100000 in
set_option maxHeartbeats 1500000 in
theorem composeC (a b c d u v p q r s x y : Int) (w : World) : Calls Try.prog 37 #[vV a b c d u v, vV p q r s x y] w fun e w' => e = .returned (.tuple #[(compR a b c d u v p q r s x y).1, .int .i64 (compR a b c d u v p q r s x y).2]) ∧ Below w.heap.size w w' := by
  have CM := Lib.hid (fun W => moveC a b c d u v W)
  have CN := Lib.hid (fun W => moveC p q r s x y W)
  have F0 := Lib.hid (fun (W : World) (hb : Below (w.heap.size + 3) (boxW w [cV a b c d u v, cV p q r s x y, cV 0 0 0 0 0 0]) W) => fun i z h => box_has [cV a b c d u v, cV p q r s x y, cV 0 0 0 0 0 0] hb (i := i) (c := z) h)
  have S0 : Hid ((boxW w [cV a b c d u v, cV p q r s x y, cV 0 0 0 0 0 0]).heap.size = w.heap.size + 3) := boxW_size [cV a b c d u v, cV p q r s x y, cV 0 0 0 0 0 0] w
  have B0 := Lib.hid (boxW_below [cV a b c d u v, cV p q r s x y, cV 0 0 0 0 0 0] w)
  unfold compR
  cases hV : okV a b c d u v with
  | false =>
    rw [hV] at CM
    rw [if_neg (fun h => absurd h.1 (by decide))]
    clear hV CN
    go_enter Try.func37, Try.ntmps37
    go_wp2_with fail
    refine (CM.out _).mono ?_
    rintro e w1 ⟨rfl, hb1⟩
    have B1 := Lib.hid (bvia B0.out hb1)
    have hb1' : Below (w.heap.size + 3) (boxW w [cV a b c d u v, cV p q r s x y, cV 0 0 0 0 0 0]) w1 := by rw [← S0.out]; exact hb1
    clear hb1
    have g0 := F0.out w1 hb1' 0 _ rfl
    have g1 := F0.out w1 hb1' 1 _ rfl
    have g2 := F0.out w1 hb1' 2 _ rfl
    have x0 : w1.cell? ⟨w.heap.size, 0, none⟩ = some (.int .i64 a) := g0.cell 0
    have x1 : w1.cell? ⟨w.heap.size, 1, none⟩ = some (.int .i64 b) := g0.cell 1
    have x2 : w1.cell? ⟨w.heap.size, 2, none⟩ = some (.int .i64 c) := g0.cell 2
    have x3 : w1.cell? ⟨w.heap.size, 3, none⟩ = some (.int .i64 d) := g0.cell 3
    have x4 : w1.cell? ⟨w.heap.size, 4, none⟩ = some (.int .i64 u) := g0.cell 4
    have x5 : w1.cell? ⟨w.heap.size, 5, none⟩ = some (.int .i64 v) := g0.cell 5
    have n0 : w1.cell? ⟨w.heap.size + 1, 0, none⟩ = some (.int .i64 p) := g1.cell 0
    have n1 : w1.cell? ⟨w.heap.size + 1, 1, none⟩ = some (.int .i64 q) := g1.cell 1
    have n2 : w1.cell? ⟨w.heap.size + 1, 2, none⟩ = some (.int .i64 r) := g1.cell 2
    have n3 : w1.cell? ⟨w.heap.size + 1, 3, none⟩ = some (.int .i64 s) := g1.cell 3
    have n4 : w1.cell? ⟨w.heap.size + 1, 4, none⟩ = some (.int .i64 x) := g1.cell 4
    have n5 : w1.cell? ⟨w.heap.size + 1, 5, none⟩ = some (.int .i64 y) := g1.cell 5
    have y0 : w1.cell? ⟨w.heap.size + 1 + 1, 0, none⟩ = some (.int .i64 0) := g2.cell 0
    have y1 : w1.cell? ⟨w.heap.size + 1 + 1, 1, none⟩ = some (.int .i64 0) := g2.cell 1
    have y2 : w1.cell? ⟨w.heap.size + 1 + 1, 2, none⟩ = some (.int .i64 0) := g2.cell 2
    have y3 : w1.cell? ⟨w.heap.size + 1 + 1, 3, none⟩ = some (.int .i64 0) := g2.cell 3
    have y4 : w1.cell? ⟨w.heap.size + 1 + 1, 4, none⟩ = some (.int .i64 0) := g2.cell 4
    have y5 : w1.cell? ⟨w.heap.size + 1 + 1, 5, none⟩ = some (.int .i64 0) := g2.cell 5
    have f0 : w1.frozen? ⟨w.heap.size + 1 + 1, 0, none⟩ = false := g2.free 0
    have f1 : w1.frozen? ⟨w.heap.size + 1 + 1, 1, none⟩ = false := g2.free 1
    have f2 : w1.frozen? ⟨w.heap.size + 1 + 1, 2, none⟩ = false := g2.free 2
    have f3 : w1.frozen? ⟨w.heap.size + 1 + 1, 3, none⟩ = false := g2.free 3
    have f4 : w1.frozen? ⟨w.heap.size + 1 + 1, 4, none⟩ = false := g2.free 4
    have f5 : w1.frozen? ⟨w.heap.size + 1 + 1, 5, none⟩ = false := g2.free 5
    have q0 : w.heap.size < w1.heap.size := g0.lt
    have q1 : w.heap.size + 1 < w1.heap.size := g1.lt
    have q2 : w.heap.size + 1 + 1 < w1.heap.size := g2.lt
    have G2 : Hid (Has w1 (w.heap.size + 1 + 1) 58 [.int .i64 0, .int .i64 0, .int .i64 0, .int .i64 0, .int .i64 0, .int .i64 0]) := g2
    clear hb1' g0 g1 g2 F0 S0 B0 CM
    go_wp2
    refine post_cell_tmp (g := w.heap.size + 1 + 1) (t := 58) (cs := [.int .i64 0, .int .i64 0, .int .i64 0, .int .i64 0, .int .i64 0, .int .i64 0]) (v := .int .i64 2) ?_ rfl rfl rfl rfl Try.underlying58 (by kernel_rfl) ⟨rfl, ?_⟩
    · exact ((((((G2.out.set 0 _).set 1 _).set 2 _).set 3 _).set 4 _).set 5 _)
    · exact ((((((B1.out.setCell (p := ⟨w.heap.size + 1 + 1, 0, none⟩) (show w.heap.size ≤ w.heap.size + 1 + 1 by omega) _).setCell (p := ⟨w.heap.size + 1 + 1, 1, none⟩) (show w.heap.size ≤ w.heap.size + 1 + 1 by omega) _).setCell (p := ⟨w.heap.size + 1 + 1, 2, none⟩) (show w.heap.size ≤ w.heap.size + 1 + 1 by omega) _).setCell (p := ⟨w.heap.size + 1 + 1, 3, none⟩) (show w.heap.size ≤ w.heap.size + 1 + 1 by omega) _).setCell (p := ⟨w.heap.size + 1 + 1, 4, none⟩) (show w.heap.size ≤ w.heap.size + 1 + 1 by omega) _).setCell (p := ⟨w.heap.size + 1 + 1, 5, none⟩) (show w.heap.size ≤ w.heap.size + 1 + 1 by omega) _)
  | true =>
  rw [hV] at CM
  cases hN : okV p q r s x y with
  | false =>
    rw [hN] at CN
    rw [if_neg (fun h => absurd h.2 (by decide))]
    clear hV hN
    go_enter Try.func37, Try.ntmps37
    go_wp2_with fail
    refine (CM.out _).mono ?_
    rintro e w1 ⟨rfl, hb1⟩
    have B1 := Lib.hid (bvia B0.out hb1)
    have hb1' : Below (w.heap.size + 3) (boxW w [cV a b c d u v, cV p q r s x y, cV 0 0 0 0 0 0]) w1 := by rw [← S0.out]; exact hb1
    clear hb1
    have g0 := F0.out w1 hb1' 0 _ rfl
    have g1 := F0.out w1 hb1' 1 _ rfl
    have g2 := F0.out w1 hb1' 2 _ rfl
    have x0 : w1.cell? ⟨w.heap.size, 0, none⟩ = some (.int .i64 a) := g0.cell 0
    have x1 : w1.cell? ⟨w.heap.size, 1, none⟩ = some (.int .i64 b) := g0.cell 1
    have x2 : w1.cell? ⟨w.heap.size, 2, none⟩ = some (.int .i64 c) := g0.cell 2
    have x3 : w1.cell? ⟨w.heap.size, 3, none⟩ = some (.int .i64 d) := g0.cell 3
    have x4 : w1.cell? ⟨w.heap.size, 4, none⟩ = some (.int .i64 u) := g0.cell 4
    have x5 : w1.cell? ⟨w.heap.size, 5, none⟩ = some (.int .i64 v) := g0.cell 5
    have n0 : w1.cell? ⟨w.heap.size + 1, 0, none⟩ = some (.int .i64 p) := g1.cell 0
    have n1 : w1.cell? ⟨w.heap.size + 1, 1, none⟩ = some (.int .i64 q) := g1.cell 1
    have n2 : w1.cell? ⟨w.heap.size + 1, 2, none⟩ = some (.int .i64 r) := g1.cell 2
    have n3 : w1.cell? ⟨w.heap.size + 1, 3, none⟩ = some (.int .i64 s) := g1.cell 3
    have n4 : w1.cell? ⟨w.heap.size + 1, 4, none⟩ = some (.int .i64 x) := g1.cell 4
    have n5 : w1.cell? ⟨w.heap.size + 1, 5, none⟩ = some (.int .i64 y) := g1.cell 5
    have y0 : w1.cell? ⟨w.heap.size + 1 + 1, 0, none⟩ = some (.int .i64 0) := g2.cell 0
    have y1 : w1.cell? ⟨w.heap.size + 1 + 1, 1, none⟩ = some (.int .i64 0) := g2.cell 1
    have y2 : w1.cell? ⟨w.heap.size + 1 + 1, 2, none⟩ = some (.int .i64 0) := g2.cell 2
    have y3 : w1.cell? ⟨w.heap.size + 1 + 1, 3, none⟩ = some (.int .i64 0) := g2.cell 3
    have y4 : w1.cell? ⟨w.heap.size + 1 + 1, 4, none⟩ = some (.int .i64 0) := g2.cell 4
    have y5 : w1.cell? ⟨w.heap.size + 1 + 1, 5, none⟩ = some (.int .i64 0) := g2.cell 5
    have f0 : w1.frozen? ⟨w.heap.size + 1 + 1, 0, none⟩ = false := g2.free 0
    have f1 : w1.frozen? ⟨w.heap.size + 1 + 1, 1, none⟩ = false := g2.free 1
    have f2 : w1.frozen? ⟨w.heap.size + 1 + 1, 2, none⟩ = false := g2.free 2
    have f3 : w1.frozen? ⟨w.heap.size + 1 + 1, 3, none⟩ = false := g2.free 3
    have f4 : w1.frozen? ⟨w.heap.size + 1 + 1, 4, none⟩ = false := g2.free 4
    have f5 : w1.frozen? ⟨w.heap.size + 1 + 1, 5, none⟩ = false := g2.free 5
    have q0 : w.heap.size < w1.heap.size := g0.lt
    have q1 : w.heap.size + 1 < w1.heap.size := g1.lt
    have q2 : w.heap.size + 1 + 1 < w1.heap.size := g2.lt
    have G2 : Hid (Has w1 (w.heap.size + 1 + 1) 58 [.int .i64 0, .int .i64 0, .int .i64 0, .int .i64 0, .int .i64 0, .int .i64 0]) := g2
    have HB1 := Lib.hid hb1'
    clear hb1' g0 g1 g2
    go_wp2_with fail
    refine (CN.out _).mono ?_
    rintro e w2 ⟨rfl, hb3⟩
    have z9 := HB1.out.size
    rw [S0.out] at z9
    have hb1' := HB1.out.trans (hb3.mono z9)
    have B2 := Lib.hid (bvia B1.out hb3)
    clear x0 n0 y0 f0 x1 n1 y1 f1 x2 n2 y2 f2 x3 n3 y3 f3 x4 n4 y4 f4 x5 n5 y5 f5 q0 q1 q2 G2 z9 hb3
    have g0 := F0.out w2 hb1' 0 _ rfl
    have g1 := F0.out w2 hb1' 1 _ rfl
    have g2 := F0.out w2 hb1' 2 _ rfl
    have x0 : w2.cell? ⟨w.heap.size, 0, none⟩ = some (.int .i64 a) := g0.cell 0
    have x1 : w2.cell? ⟨w.heap.size, 1, none⟩ = some (.int .i64 b) := g0.cell 1
    have x2 : w2.cell? ⟨w.heap.size, 2, none⟩ = some (.int .i64 c) := g0.cell 2
    have x3 : w2.cell? ⟨w.heap.size, 3, none⟩ = some (.int .i64 d) := g0.cell 3
    have x4 : w2.cell? ⟨w.heap.size, 4, none⟩ = some (.int .i64 u) := g0.cell 4
    have x5 : w2.cell? ⟨w.heap.size, 5, none⟩ = some (.int .i64 v) := g0.cell 5
    have n0 : w2.cell? ⟨w.heap.size + 1, 0, none⟩ = some (.int .i64 p) := g1.cell 0
    have n1 : w2.cell? ⟨w.heap.size + 1, 1, none⟩ = some (.int .i64 q) := g1.cell 1
    have n2 : w2.cell? ⟨w.heap.size + 1, 2, none⟩ = some (.int .i64 r) := g1.cell 2
    have n3 : w2.cell? ⟨w.heap.size + 1, 3, none⟩ = some (.int .i64 s) := g1.cell 3
    have n4 : w2.cell? ⟨w.heap.size + 1, 4, none⟩ = some (.int .i64 x) := g1.cell 4
    have n5 : w2.cell? ⟨w.heap.size + 1, 5, none⟩ = some (.int .i64 y) := g1.cell 5
    have y0 : w2.cell? ⟨w.heap.size + 1 + 1, 0, none⟩ = some (.int .i64 0) := g2.cell 0
    have y1 : w2.cell? ⟨w.heap.size + 1 + 1, 1, none⟩ = some (.int .i64 0) := g2.cell 1
    have y2 : w2.cell? ⟨w.heap.size + 1 + 1, 2, none⟩ = some (.int .i64 0) := g2.cell 2
    have y3 : w2.cell? ⟨w.heap.size + 1 + 1, 3, none⟩ = some (.int .i64 0) := g2.cell 3
    have y4 : w2.cell? ⟨w.heap.size + 1 + 1, 4, none⟩ = some (.int .i64 0) := g2.cell 4
    have y5 : w2.cell? ⟨w.heap.size + 1 + 1, 5, none⟩ = some (.int .i64 0) := g2.cell 5
    have f0 : w2.frozen? ⟨w.heap.size + 1 + 1, 0, none⟩ = false := g2.free 0
    have f1 : w2.frozen? ⟨w.heap.size + 1 + 1, 1, none⟩ = false := g2.free 1
    have f2 : w2.frozen? ⟨w.heap.size + 1 + 1, 2, none⟩ = false := g2.free 2
    have f3 : w2.frozen? ⟨w.heap.size + 1 + 1, 3, none⟩ = false := g2.free 3
    have f4 : w2.frozen? ⟨w.heap.size + 1 + 1, 4, none⟩ = false := g2.free 4
    have f5 : w2.frozen? ⟨w.heap.size + 1 + 1, 5, none⟩ = false := g2.free 5
    have q0 : w.heap.size < w2.heap.size := g0.lt
    have q1 : w.heap.size + 1 < w2.heap.size := g1.lt
    have q2 : w.heap.size + 1 + 1 < w2.heap.size := g2.lt
    have G2 : Hid (Has w2 (w.heap.size + 1 + 1) 58 [.int .i64 0, .int .i64 0, .int .i64 0, .int .i64 0, .int .i64 0, .int .i64 0]) := g2
    clear hb1' g0 g1 g2 F0 S0 B0 CM CN HB1
    go_wp2
    refine post_cell_tmp (g := w.heap.size + 1 + 1) (t := 58) (cs := [.int .i64 0, .int .i64 0, .int .i64 0, .int .i64 0, .int .i64 0, .int .i64 0]) (v := .int .i64 2) ?_ rfl rfl rfl rfl Try.underlying58 (by kernel_rfl) ⟨rfl, ?_⟩
    · exact ((((((G2.out.set 0 _).set 1 _).set 2 _).set 3 _).set 4 _).set 5 _)
    · exact ((((((B2.out.setCell (p := ⟨w.heap.size + 1 + 1, 0, none⟩) (show w.heap.size ≤ w.heap.size + 1 + 1 by omega) _).setCell (p := ⟨w.heap.size + 1 + 1, 1, none⟩) (show w.heap.size ≤ w.heap.size + 1 + 1 by omega) _).setCell (p := ⟨w.heap.size + 1 + 1, 2, none⟩) (show w.heap.size ≤ w.heap.size + 1 + 1 by omega) _).setCell (p := ⟨w.heap.size + 1 + 1, 3, none⟩) (show w.heap.size ≤ w.heap.size + 1 + 1 by omega) _).setCell (p := ⟨w.heap.size + 1 + 1, 4, none⟩) (show w.heap.size ≤ w.heap.size + 1 + 1 by omega) _).setCell (p := ⟨w.heap.size + 1 + 1, 5, none⟩) (show w.heap.size ≤ w.heap.size + 1 + 1 by omega) _)
  | true =>
  rw [hN] at CN
  rw [if_pos ⟨rfl, rfl⟩]
  obtain ⟨⟨ha, hb, hc, hd⟩, hu, hv⟩ := (okV_iff a b c d u v).1 hV
  obtain ⟨⟨hp, hq, hr, hs⟩, hx, hy⟩ := (okV_iff p q r s x y).1 hN
  have CT := Lib.hid (fun W => timesC a b c d p q r s 10000 10000 W ha hb hc hd hp hq hr hs (by decide))
  have CI : Hid (∀ W, Calls Try.prog 76 #[vV a b c d u v, vP x y] W fun e w' => e = .returned (vP (imX a b u x y) (imX c d v x y)) ∧ Below W.heap.size W w') := fun W => imageC a b c d u v x y 10000 1000000 1000000 W ha hb hc hd hu hv hx hy (by decide) (by decide)
  clear ha hb hc hd hu hv hp hq hr hs hx hy hV hN
  generalize a * p + b * r = A1 at *
  generalize a * q + b * s = A2 at *
  generalize c * p + d * r = A3 at *
  generalize c * q + d * s = A4 at *
  generalize imX a b u x y = A5 at *
  generalize imX c d v x y = A6 at *
  have CV := Lib.hid (fun W => validC A1 A2 A3 A4 A5 A6 W)
  cases hO : okV A1 A2 A3 A4 A5 A6 with
  | false =>
    rw [hO] at CV
    rw [if_neg (by decide), if_neg (by decide)] at CV
    rw [if_neg (by decide)]
    clear hO
    go_enter Try.func37, Try.ntmps37
    go_wp2_with fail
    refine (CM.out _).mono ?_
    rintro e w1 ⟨rfl, hb1⟩
    have B1 := Lib.hid (bvia B0.out hb1)
    have hb1' : Below (w.heap.size + 3) (boxW w [cV a b c d u v, cV p q r s x y, cV 0 0 0 0 0 0]) w1 := by rw [← S0.out]; exact hb1
    clear hb1
    have g0 := F0.out w1 hb1' 0 _ rfl
    have g1 := F0.out w1 hb1' 1 _ rfl
    have g2 := F0.out w1 hb1' 2 _ rfl
    have x0 : w1.cell? ⟨w.heap.size, 0, none⟩ = some (.int .i64 a) := g0.cell 0
    have x1 : w1.cell? ⟨w.heap.size, 1, none⟩ = some (.int .i64 b) := g0.cell 1
    have x2 : w1.cell? ⟨w.heap.size, 2, none⟩ = some (.int .i64 c) := g0.cell 2
    have x3 : w1.cell? ⟨w.heap.size, 3, none⟩ = some (.int .i64 d) := g0.cell 3
    have x4 : w1.cell? ⟨w.heap.size, 4, none⟩ = some (.int .i64 u) := g0.cell 4
    have x5 : w1.cell? ⟨w.heap.size, 5, none⟩ = some (.int .i64 v) := g0.cell 5
    have n0 : w1.cell? ⟨w.heap.size + 1, 0, none⟩ = some (.int .i64 p) := g1.cell 0
    have n1 : w1.cell? ⟨w.heap.size + 1, 1, none⟩ = some (.int .i64 q) := g1.cell 1
    have n2 : w1.cell? ⟨w.heap.size + 1, 2, none⟩ = some (.int .i64 r) := g1.cell 2
    have n3 : w1.cell? ⟨w.heap.size + 1, 3, none⟩ = some (.int .i64 s) := g1.cell 3
    have n4 : w1.cell? ⟨w.heap.size + 1, 4, none⟩ = some (.int .i64 x) := g1.cell 4
    have n5 : w1.cell? ⟨w.heap.size + 1, 5, none⟩ = some (.int .i64 y) := g1.cell 5
    have y0 : w1.cell? ⟨w.heap.size + 1 + 1, 0, none⟩ = some (.int .i64 0) := g2.cell 0
    have y1 : w1.cell? ⟨w.heap.size + 1 + 1, 1, none⟩ = some (.int .i64 0) := g2.cell 1
    have y2 : w1.cell? ⟨w.heap.size + 1 + 1, 2, none⟩ = some (.int .i64 0) := g2.cell 2
    have y3 : w1.cell? ⟨w.heap.size + 1 + 1, 3, none⟩ = some (.int .i64 0) := g2.cell 3
    have y4 : w1.cell? ⟨w.heap.size + 1 + 1, 4, none⟩ = some (.int .i64 0) := g2.cell 4
    have y5 : w1.cell? ⟨w.heap.size + 1 + 1, 5, none⟩ = some (.int .i64 0) := g2.cell 5
    have f0 : w1.frozen? ⟨w.heap.size + 1 + 1, 0, none⟩ = false := g2.free 0
    have f1 : w1.frozen? ⟨w.heap.size + 1 + 1, 1, none⟩ = false := g2.free 1
    have f2 : w1.frozen? ⟨w.heap.size + 1 + 1, 2, none⟩ = false := g2.free 2
    have f3 : w1.frozen? ⟨w.heap.size + 1 + 1, 3, none⟩ = false := g2.free 3
    have f4 : w1.frozen? ⟨w.heap.size + 1 + 1, 4, none⟩ = false := g2.free 4
    have f5 : w1.frozen? ⟨w.heap.size + 1 + 1, 5, none⟩ = false := g2.free 5
    have q0 : w.heap.size < w1.heap.size := g0.lt
    have q1 : w.heap.size + 1 < w1.heap.size := g1.lt
    have q2 : w.heap.size + 1 + 1 < w1.heap.size := g2.lt
    have G2 : Hid (Has w1 (w.heap.size + 1 + 1) 58 [.int .i64 0, .int .i64 0, .int .i64 0, .int .i64 0, .int .i64 0, .int .i64 0]) := g2
    have HB1 := Lib.hid hb1'
    clear hb1' g0 g1 g2
    go_wp2_with fail
    refine (CN.out _).mono ?_
    rintro e w2 ⟨rfl, hb3⟩
    have z9 := HB1.out.size
    rw [S0.out] at z9
    have hb1' := HB1.out.trans (hb3.mono z9)
    have B2 := Lib.hid (bvia B1.out hb3)
    clear x0 n0 y0 f0 x1 n1 y1 f1 x2 n2 y2 f2 x3 n3 y3 f3 x4 n4 y4 f4 x5 n5 y5 f5 q0 q1 q2 G2 z9 hb3
    have g0 := F0.out w2 hb1' 0 _ rfl
    have g1 := F0.out w2 hb1' 1 _ rfl
    have g2 := F0.out w2 hb1' 2 _ rfl
    have x0 : w2.cell? ⟨w.heap.size, 0, none⟩ = some (.int .i64 a) := g0.cell 0
    have x1 : w2.cell? ⟨w.heap.size, 1, none⟩ = some (.int .i64 b) := g0.cell 1
    have x2 : w2.cell? ⟨w.heap.size, 2, none⟩ = some (.int .i64 c) := g0.cell 2
    have x3 : w2.cell? ⟨w.heap.size, 3, none⟩ = some (.int .i64 d) := g0.cell 3
    have x4 : w2.cell? ⟨w.heap.size, 4, none⟩ = some (.int .i64 u) := g0.cell 4
    have x5 : w2.cell? ⟨w.heap.size, 5, none⟩ = some (.int .i64 v) := g0.cell 5
    have n0 : w2.cell? ⟨w.heap.size + 1, 0, none⟩ = some (.int .i64 p) := g1.cell 0
    have n1 : w2.cell? ⟨w.heap.size + 1, 1, none⟩ = some (.int .i64 q) := g1.cell 1
    have n2 : w2.cell? ⟨w.heap.size + 1, 2, none⟩ = some (.int .i64 r) := g1.cell 2
    have n3 : w2.cell? ⟨w.heap.size + 1, 3, none⟩ = some (.int .i64 s) := g1.cell 3
    have n4 : w2.cell? ⟨w.heap.size + 1, 4, none⟩ = some (.int .i64 x) := g1.cell 4
    have n5 : w2.cell? ⟨w.heap.size + 1, 5, none⟩ = some (.int .i64 y) := g1.cell 5
    have y0 : w2.cell? ⟨w.heap.size + 1 + 1, 0, none⟩ = some (.int .i64 0) := g2.cell 0
    have y1 : w2.cell? ⟨w.heap.size + 1 + 1, 1, none⟩ = some (.int .i64 0) := g2.cell 1
    have y2 : w2.cell? ⟨w.heap.size + 1 + 1, 2, none⟩ = some (.int .i64 0) := g2.cell 2
    have y3 : w2.cell? ⟨w.heap.size + 1 + 1, 3, none⟩ = some (.int .i64 0) := g2.cell 3
    have y4 : w2.cell? ⟨w.heap.size + 1 + 1, 4, none⟩ = some (.int .i64 0) := g2.cell 4
    have y5 : w2.cell? ⟨w.heap.size + 1 + 1, 5, none⟩ = some (.int .i64 0) := g2.cell 5
    have f0 : w2.frozen? ⟨w.heap.size + 1 + 1, 0, none⟩ = false := g2.free 0
    have f1 : w2.frozen? ⟨w.heap.size + 1 + 1, 1, none⟩ = false := g2.free 1
    have f2 : w2.frozen? ⟨w.heap.size + 1 + 1, 2, none⟩ = false := g2.free 2
    have f3 : w2.frozen? ⟨w.heap.size + 1 + 1, 3, none⟩ = false := g2.free 3
    have f4 : w2.frozen? ⟨w.heap.size + 1 + 1, 4, none⟩ = false := g2.free 4
    have f5 : w2.frozen? ⟨w.heap.size + 1 + 1, 5, none⟩ = false := g2.free 5
    have q0 : w.heap.size < w2.heap.size := g0.lt
    have q1 : w.heap.size + 1 < w2.heap.size := g1.lt
    have q2 : w.heap.size + 1 + 1 < w2.heap.size := g2.lt
    have G2 : Hid (Has w2 (w.heap.size + 1 + 1) 58 [.int .i64 0, .int .i64 0, .int .i64 0, .int .i64 0, .int .i64 0, .int .i64 0]) := g2
    have GA : Hid (Has w2 w.heap.size 58 [.int .i64 a, .int .i64 b, .int .i64 c, .int .i64 d, .int .i64 u, .int .i64 v]) := g0
    have GB : Hid (Has w2 (w.heap.size + 1) 58 [.int .i64 p, .int .i64 q, .int .i64 r, .int .i64 s, .int .i64 x, .int .i64 y]) := g1
    clear hb1' g0 g1 g2 F0 S0 B0 CM CN HB1
    go_upto_region 3 with (fail)
    clear x0 n0 y0 f0 x1 n1 y1 f1 x2 n2 y2 f2 x3 n3 y3 f3 x4 n4 y4 f4 x5 n5 y5 f5 q0 q1 q2
    refine wp_region_one [.q, .q, .q, .q, .q, .q, .q, .q, .q, .q, .q, .q, .q, .st 0, .q] ⟨4, 26, some (w.heap.size + 1 + 1), 58, [.int .i64 0, .int .i64 0, .int .i64 0, .int .i64 0, .int .i64 0, .int .i64 0], [.int .i64 0, .int .i64 0, .int .i64 0, .int .i64 0, .int .i64 0, .int .i64 0], .agg #[.int .i64 0, .int .i64 0, .int .i64 0, .int .i64 0, .int .i64 0, .int .i64 0]⟩ (w.heap.size + 1 + 1) ?aH0 rfl (by kernel_rfl) (by kernel_rfl) rfl G2.out ?hq0 ?hv0 ?hA0 ?he0
    case hq0 =>
      intro w3 h3
      have g0 := h3.has GA.out (by simp; try omega)
      have g1 := h3.has GB.out (by simp; try omega)
      have x0 : w3.cell? ⟨w.heap.size, 0, none⟩ = some (.int .i64 a) := g0.cell 0
      have x1 : w3.cell? ⟨w.heap.size, 1, none⟩ = some (.int .i64 b) := g0.cell 1
      have x2 : w3.cell? ⟨w.heap.size, 2, none⟩ = some (.int .i64 c) := g0.cell 2
      have x3 : w3.cell? ⟨w.heap.size, 3, none⟩ = some (.int .i64 d) := g0.cell 3
      have x4 : w3.cell? ⟨w.heap.size, 4, none⟩ = some (.int .i64 u) := g0.cell 4
      have x5 : w3.cell? ⟨w.heap.size, 5, none⟩ = some (.int .i64 v) := g0.cell 5
      have n0 : w3.cell? ⟨w.heap.size + 1, 0, none⟩ = some (.int .i64 p) := g1.cell 0
      have n1 : w3.cell? ⟨w.heap.size + 1, 1, none⟩ = some (.int .i64 q) := g1.cell 1
      have n2 : w3.cell? ⟨w.heap.size + 1, 2, none⟩ = some (.int .i64 r) := g1.cell 2
      have n3 : w3.cell? ⟨w.heap.size + 1, 3, none⟩ = some (.int .i64 s) := g1.cell 3
      have n4 : w3.cell? ⟨w.heap.size + 1, 4, none⟩ = some (.int .i64 x) := g1.cell 4
      have n5 : w3.cell? ⟨w.heap.size + 1, 5, none⟩ = some (.int .i64 y) := g1.cell 5
      have q0 : w.heap.size < w3.heap.size := g0.lt
      have q1 : w.heap.size + 1 < w3.heap.size := g1.lt
      have hxc := fun (x : Ext w3) => x.cell
      clear g0 g1 h3
      show wpQuiet _ _ _ _ [_, _, _, _, _, _, _, _, _, _, _, _, _, _] _
      repeat (go_big_quiet_step ((first | (go_at_call 65; exact ext_call (CT.out _)) | (go_at_call 76; exact ext_call (CI.out _)) | (go_at_call 80; exact ext_call (CV.out _)))))
      refine wpQuiet_nil ?_
      rfl
    case hv0 => simp
    case hA0 =>
      refine ⟨fun x hx => ?_, trivial⟩
      obtain rfl := Option.some.inj hx
      exact stOk_agg rfl rfl (by kernel_rfl) rfl (by kernel_rfl)
    case he0 =>
      intro w3 h3 K3
      have hlt := GA.out.lt
      go_wp2
      exact post_cell_tmp K3 Try.results37 rfl rfl rfl Try.underlying58 (by kernel_rfl) ⟨rfl, B2.out.trans (h3.below' (Nat.le_of_lt hlt) (by simp; try omega))⟩
  | true =>
    rw [hO] at CV
    rw [if_pos rfl, if_pos rfl] at CV
    rw [if_pos rfl]
    clear hO
    go_enter Try.func37, Try.ntmps37
    go_wp2_with fail
    refine (CM.out _).mono ?_
    rintro e w1 ⟨rfl, hb1⟩
    have B1 := Lib.hid (bvia B0.out hb1)
    have hb1' : Below (w.heap.size + 3) (boxW w [cV a b c d u v, cV p q r s x y, cV 0 0 0 0 0 0]) w1 := by rw [← S0.out]; exact hb1
    clear hb1
    have g0 := F0.out w1 hb1' 0 _ rfl
    have g1 := F0.out w1 hb1' 1 _ rfl
    have g2 := F0.out w1 hb1' 2 _ rfl
    have x0 : w1.cell? ⟨w.heap.size, 0, none⟩ = some (.int .i64 a) := g0.cell 0
    have x1 : w1.cell? ⟨w.heap.size, 1, none⟩ = some (.int .i64 b) := g0.cell 1
    have x2 : w1.cell? ⟨w.heap.size, 2, none⟩ = some (.int .i64 c) := g0.cell 2
    have x3 : w1.cell? ⟨w.heap.size, 3, none⟩ = some (.int .i64 d) := g0.cell 3
    have x4 : w1.cell? ⟨w.heap.size, 4, none⟩ = some (.int .i64 u) := g0.cell 4
    have x5 : w1.cell? ⟨w.heap.size, 5, none⟩ = some (.int .i64 v) := g0.cell 5
    have n0 : w1.cell? ⟨w.heap.size + 1, 0, none⟩ = some (.int .i64 p) := g1.cell 0
    have n1 : w1.cell? ⟨w.heap.size + 1, 1, none⟩ = some (.int .i64 q) := g1.cell 1
    have n2 : w1.cell? ⟨w.heap.size + 1, 2, none⟩ = some (.int .i64 r) := g1.cell 2
    have n3 : w1.cell? ⟨w.heap.size + 1, 3, none⟩ = some (.int .i64 s) := g1.cell 3
    have n4 : w1.cell? ⟨w.heap.size + 1, 4, none⟩ = some (.int .i64 x) := g1.cell 4
    have n5 : w1.cell? ⟨w.heap.size + 1, 5, none⟩ = some (.int .i64 y) := g1.cell 5
    have y0 : w1.cell? ⟨w.heap.size + 1 + 1, 0, none⟩ = some (.int .i64 0) := g2.cell 0
    have y1 : w1.cell? ⟨w.heap.size + 1 + 1, 1, none⟩ = some (.int .i64 0) := g2.cell 1
    have y2 : w1.cell? ⟨w.heap.size + 1 + 1, 2, none⟩ = some (.int .i64 0) := g2.cell 2
    have y3 : w1.cell? ⟨w.heap.size + 1 + 1, 3, none⟩ = some (.int .i64 0) := g2.cell 3
    have y4 : w1.cell? ⟨w.heap.size + 1 + 1, 4, none⟩ = some (.int .i64 0) := g2.cell 4
    have y5 : w1.cell? ⟨w.heap.size + 1 + 1, 5, none⟩ = some (.int .i64 0) := g2.cell 5
    have f0 : w1.frozen? ⟨w.heap.size + 1 + 1, 0, none⟩ = false := g2.free 0
    have f1 : w1.frozen? ⟨w.heap.size + 1 + 1, 1, none⟩ = false := g2.free 1
    have f2 : w1.frozen? ⟨w.heap.size + 1 + 1, 2, none⟩ = false := g2.free 2
    have f3 : w1.frozen? ⟨w.heap.size + 1 + 1, 3, none⟩ = false := g2.free 3
    have f4 : w1.frozen? ⟨w.heap.size + 1 + 1, 4, none⟩ = false := g2.free 4
    have f5 : w1.frozen? ⟨w.heap.size + 1 + 1, 5, none⟩ = false := g2.free 5
    have q0 : w.heap.size < w1.heap.size := g0.lt
    have q1 : w.heap.size + 1 < w1.heap.size := g1.lt
    have q2 : w.heap.size + 1 + 1 < w1.heap.size := g2.lt
    have G2 : Hid (Has w1 (w.heap.size + 1 + 1) 58 [.int .i64 0, .int .i64 0, .int .i64 0, .int .i64 0, .int .i64 0, .int .i64 0]) := g2
    have HB1 := Lib.hid hb1'
    clear hb1' g0 g1 g2
    go_wp2_with fail
    refine (CN.out _).mono ?_
    rintro e w2 ⟨rfl, hb3⟩
    have z9 := HB1.out.size
    rw [S0.out] at z9
    have hb1' := HB1.out.trans (hb3.mono z9)
    have B2 := Lib.hid (bvia B1.out hb3)
    clear x0 n0 y0 f0 x1 n1 y1 f1 x2 n2 y2 f2 x3 n3 y3 f3 x4 n4 y4 f4 x5 n5 y5 f5 q0 q1 q2 G2 z9 hb3
    have g0 := F0.out w2 hb1' 0 _ rfl
    have g1 := F0.out w2 hb1' 1 _ rfl
    have g2 := F0.out w2 hb1' 2 _ rfl
    have x0 : w2.cell? ⟨w.heap.size, 0, none⟩ = some (.int .i64 a) := g0.cell 0
    have x1 : w2.cell? ⟨w.heap.size, 1, none⟩ = some (.int .i64 b) := g0.cell 1
    have x2 : w2.cell? ⟨w.heap.size, 2, none⟩ = some (.int .i64 c) := g0.cell 2
    have x3 : w2.cell? ⟨w.heap.size, 3, none⟩ = some (.int .i64 d) := g0.cell 3
    have x4 : w2.cell? ⟨w.heap.size, 4, none⟩ = some (.int .i64 u) := g0.cell 4
    have x5 : w2.cell? ⟨w.heap.size, 5, none⟩ = some (.int .i64 v) := g0.cell 5
    have n0 : w2.cell? ⟨w.heap.size + 1, 0, none⟩ = some (.int .i64 p) := g1.cell 0
    have n1 : w2.cell? ⟨w.heap.size + 1, 1, none⟩ = some (.int .i64 q) := g1.cell 1
    have n2 : w2.cell? ⟨w.heap.size + 1, 2, none⟩ = some (.int .i64 r) := g1.cell 2
    have n3 : w2.cell? ⟨w.heap.size + 1, 3, none⟩ = some (.int .i64 s) := g1.cell 3
    have n4 : w2.cell? ⟨w.heap.size + 1, 4, none⟩ = some (.int .i64 x) := g1.cell 4
    have n5 : w2.cell? ⟨w.heap.size + 1, 5, none⟩ = some (.int .i64 y) := g1.cell 5
    have y0 : w2.cell? ⟨w.heap.size + 1 + 1, 0, none⟩ = some (.int .i64 0) := g2.cell 0
    have y1 : w2.cell? ⟨w.heap.size + 1 + 1, 1, none⟩ = some (.int .i64 0) := g2.cell 1
    have y2 : w2.cell? ⟨w.heap.size + 1 + 1, 2, none⟩ = some (.int .i64 0) := g2.cell 2
    have y3 : w2.cell? ⟨w.heap.size + 1 + 1, 3, none⟩ = some (.int .i64 0) := g2.cell 3
    have y4 : w2.cell? ⟨w.heap.size + 1 + 1, 4, none⟩ = some (.int .i64 0) := g2.cell 4
    have y5 : w2.cell? ⟨w.heap.size + 1 + 1, 5, none⟩ = some (.int .i64 0) := g2.cell 5
    have f0 : w2.frozen? ⟨w.heap.size + 1 + 1, 0, none⟩ = false := g2.free 0
    have f1 : w2.frozen? ⟨w.heap.size + 1 + 1, 1, none⟩ = false := g2.free 1
    have f2 : w2.frozen? ⟨w.heap.size + 1 + 1, 2, none⟩ = false := g2.free 2
    have f3 : w2.frozen? ⟨w.heap.size + 1 + 1, 3, none⟩ = false := g2.free 3
    have f4 : w2.frozen? ⟨w.heap.size + 1 + 1, 4, none⟩ = false := g2.free 4
    have f5 : w2.frozen? ⟨w.heap.size + 1 + 1, 5, none⟩ = false := g2.free 5
    have q0 : w.heap.size < w2.heap.size := g0.lt
    have q1 : w.heap.size + 1 < w2.heap.size := g1.lt
    have q2 : w.heap.size + 1 + 1 < w2.heap.size := g2.lt
    have G2 : Hid (Has w2 (w.heap.size + 1 + 1) 58 [.int .i64 0, .int .i64 0, .int .i64 0, .int .i64 0, .int .i64 0, .int .i64 0]) := g2
    have GA : Hid (Has w2 w.heap.size 58 [.int .i64 a, .int .i64 b, .int .i64 c, .int .i64 d, .int .i64 u, .int .i64 v]) := g0
    have GB : Hid (Has w2 (w.heap.size + 1) 58 [.int .i64 p, .int .i64 q, .int .i64 r, .int .i64 s, .int .i64 x, .int .i64 y]) := g1
    clear hb1' g0 g1 g2 F0 S0 B0 CM CN HB1
    go_upto_region 3 with (fail)
    clear x0 n0 y0 f0 x1 n1 y1 f1 x2 n2 y2 f2 x3 n3 y3 f3 x4 n4 y4 f4 x5 n5 y5 f5 q0 q1 q2
    refine wp_region_one [.q, .q, .q, .q, .q, .q, .q, .q, .q, .q, .q, .q, .q, .st 0, .q] ⟨4, 26, some (w.heap.size + 1 + 1), 58, [.int .i64 0, .int .i64 0, .int .i64 0, .int .i64 0, .int .i64 0, .int .i64 0], [.int .i64 A1, .int .i64 A2, .int .i64 A3, .int .i64 A4, .int .i64 A5, .int .i64 A6], .agg #[.int .i64 A1, .int .i64 A2, .int .i64 A3, .int .i64 A4, .int .i64 A5, .int .i64 A6]⟩ (w.heap.size + 1 + 1) ?aH1 rfl (by kernel_rfl) (by kernel_rfl) rfl G2.out ?hq1 ?hv1 ?hA1 ?he1
    case hq1 =>
      intro w3 h3
      have g0 := h3.has GA.out (by simp; try omega)
      have g1 := h3.has GB.out (by simp; try omega)
      have x0 : w3.cell? ⟨w.heap.size, 0, none⟩ = some (.int .i64 a) := g0.cell 0
      have x1 : w3.cell? ⟨w.heap.size, 1, none⟩ = some (.int .i64 b) := g0.cell 1
      have x2 : w3.cell? ⟨w.heap.size, 2, none⟩ = some (.int .i64 c) := g0.cell 2
      have x3 : w3.cell? ⟨w.heap.size, 3, none⟩ = some (.int .i64 d) := g0.cell 3
      have x4 : w3.cell? ⟨w.heap.size, 4, none⟩ = some (.int .i64 u) := g0.cell 4
      have x5 : w3.cell? ⟨w.heap.size, 5, none⟩ = some (.int .i64 v) := g0.cell 5
      have n0 : w3.cell? ⟨w.heap.size + 1, 0, none⟩ = some (.int .i64 p) := g1.cell 0
      have n1 : w3.cell? ⟨w.heap.size + 1, 1, none⟩ = some (.int .i64 q) := g1.cell 1
      have n2 : w3.cell? ⟨w.heap.size + 1, 2, none⟩ = some (.int .i64 r) := g1.cell 2
      have n3 : w3.cell? ⟨w.heap.size + 1, 3, none⟩ = some (.int .i64 s) := g1.cell 3
      have n4 : w3.cell? ⟨w.heap.size + 1, 4, none⟩ = some (.int .i64 x) := g1.cell 4
      have n5 : w3.cell? ⟨w.heap.size + 1, 5, none⟩ = some (.int .i64 y) := g1.cell 5
      have q0 : w.heap.size < w3.heap.size := g0.lt
      have q1 : w.heap.size + 1 < w3.heap.size := g1.lt
      have hxc := fun (x : Ext w3) => x.cell
      clear g0 g1 h3
      show wpQuiet _ _ _ _ [_, _, _, _, _, _, _, _, _, _, _, _, _, _] _
      repeat (go_big_quiet_step ((first | (go_at_call 65; exact ext_call (CT.out _)) | (go_at_call 76; exact ext_call (CI.out _)) | (go_at_call 80; exact ext_call (CV.out _)))))
      refine wpQuiet_nil ?_
      rfl
    case hv1 => simp
    case hA1 =>
      refine ⟨fun x hx => ?_, trivial⟩
      obtain rfl := Option.some.inj hx
      exact stOk_agg rfl rfl (by kernel_rfl) rfl (by kernel_rfl)
    case he1 =>
      intro w3 h3 K3
      have hlt := GA.out.lt
      go_wp2
      exact post_cell_tmp K3 Try.results37 rfl rfl rfl Try.underlying58 (by kernel_rfl) ⟨rfl, B2.out.trans (h3.below' (Nat.le_of_lt hlt) (by simp; try omega))⟩
end Go.Proofs.Ytmghpaibdgkbfaa
