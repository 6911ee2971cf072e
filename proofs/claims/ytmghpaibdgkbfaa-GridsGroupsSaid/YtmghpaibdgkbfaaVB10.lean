/-
  Contracts of chapter 6: Apply, the program's and the document's.
-/
import Derived.Test.YtmghpaibdgkbfaaVB9
namespace Go.Proofs.Ytmghpaibdgkbfaa
open Go.RowKit
def imX (a b u x y : Int) : Int := a * x + b * y + u
def apR (a b c d u v x y : Int) : Int × Int × Int :=
  if okV a b c d u v = true ∧ okP x y = true then (if okP (imX a b u x y) (imX c d v x y) = true then (imX a b u x y, imX c d v x y, 0) else (0, 0, 7)) else (0, 0, 2)
theorem okV_iff (a b c d u v : Int) : okV a b c d u v = true ↔ (In6 10000 a ∧ In6 10000 b ∧ In6 10000 c ∧ In6 10000 d) ∧ (In6 1000000 u ∧ In6 1000000 v) := by
  unfold okV
  rw [Bool.and_eq_true, okM_iff, okP_iff]
set_option maxRecDepth 100000 in
set_option maxHeartbeats 1000000 in
theorem rappC (a b c d u v x y : Int) (w : World) (hV : okV a b c d u v = true) (hP : okP x y = true) : Calls Try.prog 79 #[vV a b c d u v, vP x y] w fun e w' => e = .returned (vP (imX a b u x y) (imX c d v x y)) ∧ Below w.heap.size w w' := by
  obtain ⟨⟨ha, hb, hc, hd⟩, hu, hv⟩ := (okV_iff a b c d u v).1 hV
  obtain ⟨hx, hy⟩ := (okP_iff x y).1 hP
  have CI := Lib.hid (fun W => rimageC a b c d x y 10000 1000000 W ha hb hc hd hx hy (by decide))
  have m1 := mb 10000 1000000 10000000000 ha hx (by decide)
  have m2 := mb 10000 1000000 10000000000 hb hy (by decide)
  have m3 := mb 10000 1000000 10000000000 hc hx (by decide)
  have m4 := mb 10000 1000000 10000000000 hd hy (by decide)
  have i7 : IntKind.i64.wrap (a * x + b * y + u) = a * x + b * y + u := IntWalk.i64_in _ (by omega)
  have i8 : IntKind.i64.wrap (c * x + d * y + v) = c * x + d * y + v := IntWalk.i64_in _ (by omega)
  unfold imX
  obtain ⟨p, hp⟩ : ∃ p, p = a * x + b * y := ⟨_, rfl⟩
  obtain ⟨q, hq⟩ : ∃ q, q = c * x + d * y := ⟨_, rfl⟩
  rw [← hp] at i7 CI ⊢
  rw [← hq] at i8 CI ⊢
  clear hp hq ha hb hc hd hu hv hx hy m1 m2 m3 m4 hV hP
  have F0 := Lib.hid (fun (W : World) (hb : Below (w.heap.size + 3) (boxW w [cV a b c d u v, cP x y, cP 0 0]) W) => fun i z h => box_has [cV a b c d u v, cP x y, cP 0 0] hb (i := i) (c := z) h)
  have S0 : Hid ((boxW w [cV a b c d u v, cP x y, cP 0 0]).heap.size = w.heap.size + 3) := boxW_size [cV a b c d u v, cP x y, cP 0 0] w
  have B0 := Lib.hid (boxW_below [cV a b c d u v, cP x y, cP 0 0] w)
  go_enter Try.func79, Try.ntmps79
  go_wp2_with fail
  refine (CI.out _).mono ?_
  rintro e w1 ⟨rfl, hb1⟩
  have B1 := Lib.hid (bvia B0.out hb1)
  have hb1' : Below (w.heap.size + 3) (boxW w [cV a b c d u v, cP x y, cP 0 0]) w1 := by rw [← S0.out]; exact hb1
  have g0 := F0.out w1 hb1' 0 _ rfl
  have g2 := F0.out w1 hb1' 2 _ rfl
  have x4 : w1.cell? ⟨w.heap.size, 4, none⟩ = some (.int .i64 u) := g0.cell 4
  have x5 : w1.cell? ⟨w.heap.size, 5, none⟩ = some (.int .i64 v) := g0.cell 5
  have y0 : w1.cell? ⟨w.heap.size + 1 + 1, 0, none⟩ = some (.int .i64 0) := g2.cell 0
  have y1 : w1.cell? ⟨w.heap.size + 1 + 1, 1, none⟩ = some (.int .i64 0) := g2.cell 1
  have f0 : w1.frozen? ⟨w.heap.size + 1 + 1, 0, none⟩ = false := g2.free 0
  have f1 : w1.frozen? ⟨w.heap.size + 1 + 1, 1, none⟩ = false := g2.free 1
  have q0 : w.heap.size < w1.heap.size := g0.lt
  have q2 : w.heap.size + 1 + 1 < w1.heap.size := g2.lt
  have G2 : Hid (Has w1 (w.heap.size + 1 + 1) 25 [.int .i64 0, .int .i64 0]) := g2
  clear hb1 hb1' g0 g2 F0 S0 B0 CI
  go_wp2
  refine post_cell (g := w.heap.size + 1 + 1) (t := 25) (cs := [.int .i64 (p + u), .int .i64 (q + v)]) ?_ rfl rfl rfl Try.underlying25 (by kernel_rfl) ⟨rfl, ?_⟩
  · first | exact ((G2.out.alloc _).set 0 _).set 1 _ | exact ((G2.out.set 0 _).set 1 _).alloc _ | (trace_state; sorry)
  · first | exact bvia ((B1.out.setCell (p := ⟨w.heap.size + 1 + 1, 0, none⟩) (show w.heap.size ≤ w.heap.size + 1 + 1 by omega) _).setCell (p := ⟨w.heap.size + 1 + 1, 1, none⟩) (show w.heap.size ≤ w.heap.size + 1 + 1 by omega) _) ((Below.refl _ _).alloc (Nat.le_refl _) _) | exact ((bvia B1.out ((Below.refl _ w1).alloc (Nat.le_refl _) _)).setCell (p := ⟨w.heap.size + 1 + 1, 0, none⟩) (show w.heap.size ≤ w.heap.size + 1 + 1 by omega) _).setCell (p := ⟨w.heap.size + 1 + 1, 1, none⟩) (show w.heap.size ≤ w.heap.size + 1 + 1 by omega) _ | (trace_state; sorry)
set_option maxRecDepth 100000 in
set_option maxHeartbeats 1000000 in
theorem applyC (a b c d u v x y : Int) (w : World) : Calls Try.prog 35 #[vV a b c d u v, vP x y] w fun e w' => e = .returned (.tuple #[vP (apR a b c d u v x y).1 (apR a b c d u v x y).2.1, .int .i64 (apR a b c d u v x y).2.2]) ∧ Below w.heap.size w w' := by
  have CM := Lib.hid (fun W => moveC a b c d u v W)
  have F0 := Lib.hid (fun (W : World) (hb : Below (w.heap.size + 3) (boxW w [cV a b c d u v, cP x y, cP 0 0]) W) => fun i z h => box_has [cV a b c d u v, cP x y, cP 0 0] hb (i := i) (c := z) h)
  have S0 : Hid ((boxW w [cV a b c d u v, cP x y, cP 0 0]).heap.size = w.heap.size + 3) := boxW_size [cV a b c d u v, cP x y, cP 0 0] w
  have B0 := Lib.hid (boxW_below [cV a b c d u v, cP x y, cP 0 0] w)
  unfold apR
  cases hV : okV a b c d u v with
  | false =>
    rw [hV] at CM
    rw [if_neg (fun h => absurd h.1 (by decide))]
    clear hV
    go_enter Try.func35, Try.ntmps35
    go_wp2_with fail
    refine (CM.out _).mono ?_
    rintro e w1 ⟨rfl, hb1⟩
    have B1 := Lib.hid (bvia B0.out hb1)
    have hb1' : Below (w.heap.size + 3) (boxW w [cV a b c d u v, cP x y, cP 0 0]) w1 := by rw [← S0.out]; exact hb1
    have g1 := F0.out w1 hb1' 1 _ rfl
    have g2 := F0.out w1 hb1' 2 _ rfl
    have z0 : w1.cell? ⟨w.heap.size + 1, 0, none⟩ = some (.int .i64 x) := g1.cell 0
    have z1 : w1.cell? ⟨w.heap.size + 1, 1, none⟩ = some (.int .i64 y) := g1.cell 1
    have y0 : w1.cell? ⟨w.heap.size + 1 + 1, 0, none⟩ = some (.int .i64 0) := g2.cell 0
    have y1 : w1.cell? ⟨w.heap.size + 1 + 1, 1, none⟩ = some (.int .i64 0) := g2.cell 1
    have f0 : w1.frozen? ⟨w.heap.size + 1 + 1, 0, none⟩ = false := g2.free 0
    have f1 : w1.frozen? ⟨w.heap.size + 1 + 1, 1, none⟩ = false := g2.free 1
    have q2 : w.heap.size + 1 + 1 < w1.heap.size := g2.lt
    have G2 : Hid (Has w1 (w.heap.size + 1 + 1) 25 [.int .i64 0, .int .i64 0]) := g2
    clear hb1 hb1' g1 g2
    go_wp2
    refine post_cell_tmp (g := w.heap.size + 1 + 1) (t := 25) (cs := [.int .i64 0, .int .i64 0]) (v := .int .i64 2) ?_ rfl rfl rfl rfl Try.underlying25 (by kernel_rfl) ⟨rfl, ?_⟩
    · first | exact (G2.out.set 0 _).set 1 _ | (trace_state; sorry)
    · first | exact (B1.out.setCell (p := ⟨w.heap.size + 1 + 1, 0, none⟩) (show w.heap.size ≤ w.heap.size + 1 + 1 by omega) _).setCell (p := ⟨w.heap.size + 1 + 1, 1, none⟩) (show w.heap.size ≤ w.heap.size + 1 + 1 by omega) _ | (trace_state; sorry)
  | true =>
  rw [hV] at CM
  have CP := Lib.hid (fun (W : World) => pointC (some ⟨W.heap.size, 0, none⟩) 1 1 [(x, y)] (W.alloc (.cells #[.int .i64 x, .int .i64 y] 25)) (rdP_new [(x, y)]) rfl (by decide))
  rw [okPs_one] at CP
  cases hP : okP x y with
  | false =>
    rw [hP] at CP
    rw [if_neg (fun h => absurd h.2 (by decide))]
    clear hV hP
    go_enter Try.func35, Try.ntmps35
    go_wp2_with fail
    refine (CM.out _).mono ?_
    rintro e w1 ⟨rfl, hb1⟩
    have B1 := Lib.hid (bvia B0.out hb1)
    have hb1' : Below (w.heap.size + 3) (boxW w [cV a b c d u v, cP x y, cP 0 0]) w1 := by rw [← S0.out]; exact hb1
    have g1 := F0.out w1 hb1' 1 _ rfl
    have g2 := F0.out w1 hb1' 2 _ rfl
    have z0 : w1.cell? ⟨w.heap.size + 1, 0, none⟩ = some (.int .i64 x) := g1.cell 0
    have z1 : w1.cell? ⟨w.heap.size + 1, 1, none⟩ = some (.int .i64 y) := g1.cell 1
    have y0 : w1.cell? ⟨w.heap.size + 1 + 1, 0, none⟩ = some (.int .i64 0) := g2.cell 0
    have y1 : w1.cell? ⟨w.heap.size + 1 + 1, 1, none⟩ = some (.int .i64 0) := g2.cell 1
    have f0 : w1.frozen? ⟨w.heap.size + 1 + 1, 0, none⟩ = false := g2.free 0
    have f1 : w1.frozen? ⟨w.heap.size + 1 + 1, 1, none⟩ = false := g2.free 1
    have q2 : w.heap.size + 1 + 1 < w1.heap.size := g2.lt
    have G2 : Hid (Has w1 (w.heap.size + 1 + 1) 25 [.int .i64 0, .int .i64 0]) := g2
    have HB1 := Lib.hid hb1'
    clear hb1 hb1' g1 g2
    go_wp2_with fail
    refine (CP.out _).mono ?_
    rintro e w2 ⟨rfl, hb2⟩
    have hb3 : Below w1.heap.size w1 w2 := bvia (by first | exact Below.refl _ _ | go_grown) hb2
    have z1 := HB1.out.size
    rw [S0.out] at z1
    have hb1' := HB1.out.trans (hb3.mono z1)
    have B2 := Lib.hid (bvia B1.out hb3)
    clear y0 y1 f0 f1 q2 G2 z1
    have g1 := F0.out w2 hb1' 1 _ rfl
    have g2 := F0.out w2 hb1' 2 _ rfl
    have z0 : w2.cell? ⟨w.heap.size + 1, 0, none⟩ = some (.int .i64 x) := g1.cell 0
    have z1 : w2.cell? ⟨w.heap.size + 1, 1, none⟩ = some (.int .i64 y) := g1.cell 1
    have y0 : w2.cell? ⟨w.heap.size + 1 + 1, 0, none⟩ = some (.int .i64 0) := g2.cell 0
    have y1 : w2.cell? ⟨w.heap.size + 1 + 1, 1, none⟩ = some (.int .i64 0) := g2.cell 1
    have f0 : w2.frozen? ⟨w.heap.size + 1 + 1, 0, none⟩ = false := g2.free 0
    have f1 : w2.frozen? ⟨w.heap.size + 1 + 1, 1, none⟩ = false := g2.free 1
    have q2 : w.heap.size + 1 + 1 < w2.heap.size := g2.lt
    have G2 : Hid (Has w2 (w.heap.size + 1 + 1) 25 [.int .i64 0, .int .i64 0]) := g2
    clear hb2 hb3 hb1' g1 g2
    go_wp2
    refine post_cell_tmp (g := w.heap.size + 1 + 1) (t := 25) (cs := [.int .i64 0, .int .i64 0]) (v := .int .i64 2) ?_ rfl rfl rfl rfl Try.underlying25 (by kernel_rfl) ⟨rfl, ?_⟩
    · first | exact (G2.out.set 0 _).set 1 _ | (trace_state; sorry)
    · first | exact (B2.out.setCell (p := ⟨w.heap.size + 1 + 1, 0, none⟩) (show w.heap.size ≤ w.heap.size + 1 + 1 by omega) _).setCell (p := ⟨w.heap.size + 1 + 1, 1, none⟩) (show w.heap.size ≤ w.heap.size + 1 + 1 by omega) _ | (trace_state; sorry)
  | true =>
  rw [hP] at CP
  rw [if_pos ⟨rfl, rfl⟩]
  obtain ⟨⟨ha, hb, hc, hd⟩, hu, hv⟩ := (okV_iff a b c d u v).1 hV
  obtain ⟨hx, hy⟩ := (okP_iff x y).1 hP
  have CI : Hid (∀ W, Calls Try.prog 76 #[vV a b c d u v, vP x y] W fun e w' => e = .returned (vP (imX a b u x y) (imX c d v x y)) ∧ Below W.heap.size W w') := fun W => imageC a b c d u v x y 10000 1000000 1000000 W ha hb hc hd hu hv hx hy (by decide) (by decide)
  clear ha hb hc hd hu hv hx hy hV hP
  generalize imX a b u x y = p at *
  generalize imX c d v x y = q at *
  have CQ := Lib.hid (fun (W : World) => pointC (some ⟨W.heap.size, 0, none⟩) 1 1 [(p, q)] (W.alloc (.cells #[.int .i64 p, .int .i64 q] 25)) (rdP_new [(p, q)]) rfl (by decide))
  rw [okPs_one] at CQ
  cases hQ : okP p q with
  | false =>
    rw [hQ] at CQ
    rw [if_neg (fun h => absurd h (by decide))]
    clear hQ
    go_enter Try.func35, Try.ntmps35
    go_wp2_with fail
    refine (CM.out _).mono ?_
    rintro e w1 ⟨rfl, hb1⟩
    have B1 := Lib.hid (bvia B0.out hb1)
    have hb1' : Below (w.heap.size + 3) (boxW w [cV a b c d u v, cP x y, cP 0 0]) w1 := by rw [← S0.out]; exact hb1
    have g1 := F0.out w1 hb1' 1 _ rfl
    have g2 := F0.out w1 hb1' 2 _ rfl
    have z0 : w1.cell? ⟨w.heap.size + 1, 0, none⟩ = some (.int .i64 x) := g1.cell 0
    have z1 : w1.cell? ⟨w.heap.size + 1, 1, none⟩ = some (.int .i64 y) := g1.cell 1
    have y0 : w1.cell? ⟨w.heap.size + 1 + 1, 0, none⟩ = some (.int .i64 0) := g2.cell 0
    have y1 : w1.cell? ⟨w.heap.size + 1 + 1, 1, none⟩ = some (.int .i64 0) := g2.cell 1
    have f0 : w1.frozen? ⟨w.heap.size + 1 + 1, 0, none⟩ = false := g2.free 0
    have f1 : w1.frozen? ⟨w.heap.size + 1 + 1, 1, none⟩ = false := g2.free 1
    have q2 : w.heap.size + 1 + 1 < w1.heap.size := g2.lt
    have G2 : Hid (Has w1 (w.heap.size + 1 + 1) 25 [.int .i64 0, .int .i64 0]) := g2
    have HB1 := Lib.hid hb1'
    clear hb1 hb1' g1 g2
    go_wp2_with fail
    refine (CP.out _).mono ?_
    rintro e w2 ⟨rfl, hb2⟩
    have hb3 : Below w1.heap.size w1 w2 := bvia (by first | exact Below.refl _ _ | go_grown) hb2
    have z9 := HB1.out.size
    rw [S0.out] at z9
    have hb1' := HB1.out.trans (hb3.mono z9)
    have B2 := Lib.hid (bvia B1.out hb3)
    clear y0 y1 f0 f1 q2 G2 z9 z0 z1
    have g1 := F0.out w2 hb1' 1 _ rfl
    have g2 := F0.out w2 hb1' 2 _ rfl
    have z0 : w2.cell? ⟨w.heap.size + 1, 0, none⟩ = some (.int .i64 x) := g1.cell 0
    have z1 : w2.cell? ⟨w.heap.size + 1, 1, none⟩ = some (.int .i64 y) := g1.cell 1
    have y0 : w2.cell? ⟨w.heap.size + 1 + 1, 0, none⟩ = some (.int .i64 0) := g2.cell 0
    have y1 : w2.cell? ⟨w.heap.size + 1 + 1, 1, none⟩ = some (.int .i64 0) := g2.cell 1
    have f0 : w2.frozen? ⟨w.heap.size + 1 + 1, 0, none⟩ = false := g2.free 0
    have f1 : w2.frozen? ⟨w.heap.size + 1 + 1, 1, none⟩ = false := g2.free 1
    have q2 : w.heap.size + 1 + 1 < w2.heap.size := g2.lt
    have G2 : Hid (Has w2 (w.heap.size + 1 + 1) 25 [.int .i64 0, .int .i64 0]) := g2
    have g0 := F0.out w2 hb1' 0 _ rfl
    have v0 : w2.cell? ⟨w.heap.size, 0, none⟩ = some (.int .i64 a) := g0.cell 0
    have v1 : w2.cell? ⟨w.heap.size, 1, none⟩ = some (.int .i64 b) := g0.cell 1
    have v2 : w2.cell? ⟨w.heap.size, 2, none⟩ = some (.int .i64 c) := g0.cell 2
    have v3 : w2.cell? ⟨w.heap.size, 3, none⟩ = some (.int .i64 d) := g0.cell 3
    have v4 : w2.cell? ⟨w.heap.size, 4, none⟩ = some (.int .i64 u) := g0.cell 4
    have v5 : w2.cell? ⟨w.heap.size, 5, none⟩ = some (.int .i64 v) := g0.cell 5
    have HB2 := Lib.hid hb1'
    clear hb2 hb3 hb1' g0 g1 g2 HB1
    go_wp2_with fail
    refine (CI.out _).mono ?_
    rintro e w3 ⟨rfl, hb3⟩
    have z9 := HB2.out.size
    rw [S0.out] at z9
    have HB3 := Lib.hid (HB2.out.trans (hb3.mono z9))
    have B3 := Lib.hid (bvia B2.out hb3)
    have z8 := HB3.out.size
    rw [S0.out] at z8
    have hK : Has (w3.alloc (.cells #[.int .i64 p, .int .i64 q] 25)) w3.heap.size 25 [.int .i64 p, .int .i64 q] := Has.new rfl
    have HK := Lib.hid hK
    have D3 := Lib.hid ((Below.refl w3.heap.size w3).alloc (Nat.le_refl _) (.cells #[.int .i64 p, .int .i64 q] 25))
    clear hK hb3 y0 y1 f0 f1 q2 G2 z9 z0 z1 v0 v1 v2 v3 v4 v5 HB2
    have cq3 := CQ.out (w3.alloc (.cells #[.int .i64 p, .int .i64 q] 25))
    rw [World.size_alloc] at cq3
    have CQ3 := Lib.hid cq3
    clear cq3
    go_wp2_with fail
    refine CQ3.out.mono ?_
    rintro e w4 ⟨rfl, hb4⟩
    have hb5 : Below (w3.alloc (.cells #[.int .i64 p, .int .i64 q] 25)).heap.size (w3.alloc (.cells #[.int .i64 p, .int .i64 q] 25)) w4 := bvia (by first | exact Below.refl _ _ | go_grown) hb4
    have hk4 := HK.out.below hb5 HK.out.lt
    have k0 : w4.cell? ⟨w3.heap.size, 0, none⟩ = some (.int .i64 p) := hk4.cell 0
    have k1 : w4.cell? ⟨w3.heap.size, 1, none⟩ = some (.int .i64 q) := hk4.cell 1
    have hb6 := bvia D3.out hb5
    have hb1' := HB3.out.trans (hb6.mono z8)
    have B4 := Lib.hid (bvia B3.out hb6)
    have g1 := F0.out w4 hb1' 1 _ rfl
    have g2 := F0.out w4 hb1' 2 _ rfl
    have z0 : w4.cell? ⟨w.heap.size + 1, 0, none⟩ = some (.int .i64 x) := g1.cell 0
    have z1 : w4.cell? ⟨w.heap.size + 1, 1, none⟩ = some (.int .i64 y) := g1.cell 1
    have y0 : w4.cell? ⟨w.heap.size + 1 + 1, 0, none⟩ = some (.int .i64 0) := g2.cell 0
    have y1 : w4.cell? ⟨w.heap.size + 1 + 1, 1, none⟩ = some (.int .i64 0) := g2.cell 1
    have f0 : w4.frozen? ⟨w.heap.size + 1 + 1, 0, none⟩ = false := g2.free 0
    have f1 : w4.frozen? ⟨w.heap.size + 1 + 1, 1, none⟩ = false := g2.free 1
    have q2 : w.heap.size + 1 + 1 < w4.heap.size := g2.lt
    have G2 : Hid (Has w4 (w.heap.size + 1 + 1) 25 [.int .i64 0, .int .i64 0]) := g2
    clear hb4 hb5 hb6 hb1' hk4 g1 g2 HB3 D3 HK
    go_wp2
    refine post_cell_tmp (g := w.heap.size + 1 + 1) (t := 25) (cs := [.int .i64 0, .int .i64 0]) (v := .int .i64 7) ?_ rfl rfl rfl rfl Try.underlying25 (by kernel_rfl) ⟨rfl, ?_⟩
    · first | exact (G2.out.set 0 _).set 1 _ | (trace_state; sorry)
    · first | exact (B4.out.setCell (p := ⟨w.heap.size + 1 + 1, 0, none⟩) (show w.heap.size ≤ w.heap.size + 1 + 1 by omega) _).setCell (p := ⟨w.heap.size + 1 + 1, 1, none⟩) (show w.heap.size ≤ w.heap.size + 1 + 1 by omega) _ | (trace_state; sorry)
  | true =>
    rw [hQ] at CQ
    rw [if_pos rfl]
    clear hQ
    go_enter Try.func35, Try.ntmps35
    go_wp2_with fail
    refine (CM.out _).mono ?_
    rintro e w1 ⟨rfl, hb1⟩
    have B1 := Lib.hid (bvia B0.out hb1)
    have hb1' : Below (w.heap.size + 3) (boxW w [cV a b c d u v, cP x y, cP 0 0]) w1 := by rw [← S0.out]; exact hb1
    have g1 := F0.out w1 hb1' 1 _ rfl
    have g2 := F0.out w1 hb1' 2 _ rfl
    have z0 : w1.cell? ⟨w.heap.size + 1, 0, none⟩ = some (.int .i64 x) := g1.cell 0
    have z1 : w1.cell? ⟨w.heap.size + 1, 1, none⟩ = some (.int .i64 y) := g1.cell 1
    have y0 : w1.cell? ⟨w.heap.size + 1 + 1, 0, none⟩ = some (.int .i64 0) := g2.cell 0
    have y1 : w1.cell? ⟨w.heap.size + 1 + 1, 1, none⟩ = some (.int .i64 0) := g2.cell 1
    have f0 : w1.frozen? ⟨w.heap.size + 1 + 1, 0, none⟩ = false := g2.free 0
    have f1 : w1.frozen? ⟨w.heap.size + 1 + 1, 1, none⟩ = false := g2.free 1
    have q2 : w.heap.size + 1 + 1 < w1.heap.size := g2.lt
    have G2 : Hid (Has w1 (w.heap.size + 1 + 1) 25 [.int .i64 0, .int .i64 0]) := g2
    have HB1 := Lib.hid hb1'
    clear hb1 hb1' g1 g2
    go_wp2_with fail
    refine (CP.out _).mono ?_
    rintro e w2 ⟨rfl, hb2⟩
    have hb3 : Below w1.heap.size w1 w2 := bvia (by first | exact Below.refl _ _ | go_grown) hb2
    have z9 := HB1.out.size
    rw [S0.out] at z9
    have hb1' := HB1.out.trans (hb3.mono z9)
    have B2 := Lib.hid (bvia B1.out hb3)
    clear y0 y1 f0 f1 q2 G2 z9 z0 z1
    have g1 := F0.out w2 hb1' 1 _ rfl
    have g2 := F0.out w2 hb1' 2 _ rfl
    have z0 : w2.cell? ⟨w.heap.size + 1, 0, none⟩ = some (.int .i64 x) := g1.cell 0
    have z1 : w2.cell? ⟨w.heap.size + 1, 1, none⟩ = some (.int .i64 y) := g1.cell 1
    have y0 : w2.cell? ⟨w.heap.size + 1 + 1, 0, none⟩ = some (.int .i64 0) := g2.cell 0
    have y1 : w2.cell? ⟨w.heap.size + 1 + 1, 1, none⟩ = some (.int .i64 0) := g2.cell 1
    have f0 : w2.frozen? ⟨w.heap.size + 1 + 1, 0, none⟩ = false := g2.free 0
    have f1 : w2.frozen? ⟨w.heap.size + 1 + 1, 1, none⟩ = false := g2.free 1
    have q2 : w.heap.size + 1 + 1 < w2.heap.size := g2.lt
    have G2 : Hid (Has w2 (w.heap.size + 1 + 1) 25 [.int .i64 0, .int .i64 0]) := g2
    have g0 := F0.out w2 hb1' 0 _ rfl
    have v0 : w2.cell? ⟨w.heap.size, 0, none⟩ = some (.int .i64 a) := g0.cell 0
    have v1 : w2.cell? ⟨w.heap.size, 1, none⟩ = some (.int .i64 b) := g0.cell 1
    have v2 : w2.cell? ⟨w.heap.size, 2, none⟩ = some (.int .i64 c) := g0.cell 2
    have v3 : w2.cell? ⟨w.heap.size, 3, none⟩ = some (.int .i64 d) := g0.cell 3
    have v4 : w2.cell? ⟨w.heap.size, 4, none⟩ = some (.int .i64 u) := g0.cell 4
    have v5 : w2.cell? ⟨w.heap.size, 5, none⟩ = some (.int .i64 v) := g0.cell 5
    have HB2 := Lib.hid hb1'
    clear hb2 hb3 hb1' g0 g1 g2 HB1
    go_wp2_with fail
    refine (CI.out _).mono ?_
    rintro e w3 ⟨rfl, hb3⟩
    have z9 := HB2.out.size
    rw [S0.out] at z9
    have HB3 := Lib.hid (HB2.out.trans (hb3.mono z9))
    have B3 := Lib.hid (bvia B2.out hb3)
    have z8 := HB3.out.size
    rw [S0.out] at z8
    have hK : Has (w3.alloc (.cells #[.int .i64 p, .int .i64 q] 25)) w3.heap.size 25 [.int .i64 p, .int .i64 q] := Has.new rfl
    have HK := Lib.hid hK
    have D3 := Lib.hid ((Below.refl w3.heap.size w3).alloc (Nat.le_refl _) (.cells #[.int .i64 p, .int .i64 q] 25))
    clear hK hb3 y0 y1 f0 f1 q2 G2 z9 z0 z1 v0 v1 v2 v3 v4 v5 HB2
    have cq3 := CQ.out (w3.alloc (.cells #[.int .i64 p, .int .i64 q] 25))
    rw [World.size_alloc] at cq3
    have CQ3 := Lib.hid cq3
    clear cq3
    go_wp2_with fail
    refine CQ3.out.mono ?_
    rintro e w4 ⟨rfl, hb4⟩
    have hb5 : Below (w3.alloc (.cells #[.int .i64 p, .int .i64 q] 25)).heap.size (w3.alloc (.cells #[.int .i64 p, .int .i64 q] 25)) w4 := bvia (by first | exact Below.refl _ _ | go_grown) hb4
    have hk4 := HK.out.below hb5 HK.out.lt
    have k0 : w4.cell? ⟨w3.heap.size, 0, none⟩ = some (.int .i64 p) := hk4.cell 0
    have k1 : w4.cell? ⟨w3.heap.size, 1, none⟩ = some (.int .i64 q) := hk4.cell 1
    have hb6 := bvia D3.out hb5
    have hb1' := HB3.out.trans (hb6.mono z8)
    have B4 := Lib.hid (bvia B3.out hb6)
    have g1 := F0.out w4 hb1' 1 _ rfl
    have g2 := F0.out w4 hb1' 2 _ rfl
    have z0 : w4.cell? ⟨w.heap.size + 1, 0, none⟩ = some (.int .i64 x) := g1.cell 0
    have z1 : w4.cell? ⟨w.heap.size + 1, 1, none⟩ = some (.int .i64 y) := g1.cell 1
    have y0 : w4.cell? ⟨w.heap.size + 1 + 1, 0, none⟩ = some (.int .i64 0) := g2.cell 0
    have y1 : w4.cell? ⟨w.heap.size + 1 + 1, 1, none⟩ = some (.int .i64 0) := g2.cell 1
    have f0 : w4.frozen? ⟨w.heap.size + 1 + 1, 0, none⟩ = false := g2.free 0
    have f1 : w4.frozen? ⟨w.heap.size + 1 + 1, 1, none⟩ = false := g2.free 1
    have q2 : w.heap.size + 1 + 1 < w4.heap.size := g2.lt
    have G2 : Hid (Has w4 (w.heap.size + 1 + 1) 25 [.int .i64 0, .int .i64 0]) := g2
    clear hb4 hb5 hb6 hb1' hk4 g1 g2 HB3 D3 HK
    go_wp2
    refine post_cell_tmp (g := w.heap.size + 1 + 1) (t := 25) (cs := [.int .i64 p, .int .i64 q]) (v := .int .i64 0) ?_ rfl rfl rfl rfl Try.underlying25 (by kernel_rfl) ⟨rfl, ?_⟩
    · first | exact (G2.out.set 0 _).set 1 _ | (trace_state; sorry)
    · first | exact (B4.out.setCell (p := ⟨w.heap.size + 1 + 1, 0, none⟩) (show w.heap.size ≤ w.heap.size + 1 + 1 by omega) _).setCell (p := ⟨w.heap.size + 1 + 1, 1, none⟩) (show w.heap.size ≤ w.heap.size + 1 + 1 by omega) _ | (trace_state; sorry)
set_option maxRecDepth 100000 in
set_option maxHeartbeats 1000000 in
theorem rApplyC (a b c d u v x y : Int) (w : World) : Calls Try.prog 36 #[vV a b c d u v, vP x y] w fun e w' => e = .returned (.tuple #[vP (apR a b c d u v x y).1 (apR a b c d u v x y).2.1, .int .i64 (apR a b c d u v x y).2.2]) ∧ Below w.heap.size w w' := by
  have CM := Lib.hid (fun W => rmoveC a b c d u v W)
  have F0 := Lib.hid (fun (W : World) (hb : Below (w.heap.size + 3) (boxW w [cV a b c d u v, cP x y, cP 0 0]) W) => fun i z h => box_has [cV a b c d u v, cP x y, cP 0 0] hb (i := i) (c := z) h)
  have S0 : Hid ((boxW w [cV a b c d u v, cP x y, cP 0 0]).heap.size = w.heap.size + 3) := boxW_size [cV a b c d u v, cP x y, cP 0 0] w
  have B0 := Lib.hid (boxW_below [cV a b c d u v, cP x y, cP 0 0] w)
  unfold apR
  cases hV : okV a b c d u v with
  | false =>
    rw [hV] at CM
    rw [if_neg (fun h => absurd h.1 (by decide))]
    clear hV
    go_enter Try.func36, Try.ntmps36
    go_wp2_with fail
    refine (CM.out _).mono ?_
    rintro e w1 ⟨rfl, hb1⟩
    have B1 := Lib.hid (bvia B0.out hb1)
    have hb1' : Below (w.heap.size + 3) (boxW w [cV a b c d u v, cP x y, cP 0 0]) w1 := by rw [← S0.out]; exact hb1
    have g1 := F0.out w1 hb1' 1 _ rfl
    have g2 := F0.out w1 hb1' 2 _ rfl
    have z0 : w1.cell? ⟨w.heap.size + 1, 0, none⟩ = some (.int .i64 x) := g1.cell 0
    have z1 : w1.cell? ⟨w.heap.size + 1, 1, none⟩ = some (.int .i64 y) := g1.cell 1
    have y0 : w1.cell? ⟨w.heap.size + 1 + 1, 0, none⟩ = some (.int .i64 0) := g2.cell 0
    have y1 : w1.cell? ⟨w.heap.size + 1 + 1, 1, none⟩ = some (.int .i64 0) := g2.cell 1
    have f0 : w1.frozen? ⟨w.heap.size + 1 + 1, 0, none⟩ = false := g2.free 0
    have f1 : w1.frozen? ⟨w.heap.size + 1 + 1, 1, none⟩ = false := g2.free 1
    have q2 : w.heap.size + 1 + 1 < w1.heap.size := g2.lt
    have G2 : Hid (Has w1 (w.heap.size + 1 + 1) 25 [.int .i64 0, .int .i64 0]) := g2
    clear hb1 hb1' g1 g2
    go_wp2
    refine post_cell_tmp (g := w.heap.size + 1 + 1) (t := 25) (cs := [.int .i64 0, .int .i64 0]) (v := .int .i64 2) ?_ rfl rfl rfl rfl Try.underlying25 (by kernel_rfl) ⟨rfl, ?_⟩
    · first | exact (G2.out.set 0 _).set 1 _ | (trace_state; sorry)
    · first | exact (B1.out.setCell (p := ⟨w.heap.size + 1 + 1, 0, none⟩) (show w.heap.size ≤ w.heap.size + 1 + 1 by omega) _).setCell (p := ⟨w.heap.size + 1 + 1, 1, none⟩) (show w.heap.size ≤ w.heap.size + 1 + 1 by omega) _ | (trace_state; sorry)
  | true =>
  rw [hV] at CM
  have CP := Lib.hid (fun W => refP x y W)
  cases hP : okP x y with
  | false =>
    rw [hP] at CP
    rw [if_neg (fun h => absurd h.2 (by decide))]
    clear hV hP
    go_enter Try.func36, Try.ntmps36
    go_wp2_with fail
    refine (CM.out _).mono ?_
    rintro e w1 ⟨rfl, hb1⟩
    have B1 := Lib.hid (bvia B0.out hb1)
    have hb1' : Below (w.heap.size + 3) (boxW w [cV a b c d u v, cP x y, cP 0 0]) w1 := by rw [← S0.out]; exact hb1
    have g1 := F0.out w1 hb1' 1 _ rfl
    have g2 := F0.out w1 hb1' 2 _ rfl
    have z0 : w1.cell? ⟨w.heap.size + 1, 0, none⟩ = some (.int .i64 x) := g1.cell 0
    have z1 : w1.cell? ⟨w.heap.size + 1, 1, none⟩ = some (.int .i64 y) := g1.cell 1
    have y0 : w1.cell? ⟨w.heap.size + 1 + 1, 0, none⟩ = some (.int .i64 0) := g2.cell 0
    have y1 : w1.cell? ⟨w.heap.size + 1 + 1, 1, none⟩ = some (.int .i64 0) := g2.cell 1
    have f0 : w1.frozen? ⟨w.heap.size + 1 + 1, 0, none⟩ = false := g2.free 0
    have f1 : w1.frozen? ⟨w.heap.size + 1 + 1, 1, none⟩ = false := g2.free 1
    have q2 : w.heap.size + 1 + 1 < w1.heap.size := g2.lt
    have G2 : Hid (Has w1 (w.heap.size + 1 + 1) 25 [.int .i64 0, .int .i64 0]) := g2
    have HB1 := Lib.hid hb1'
    clear hb1 hb1' g1 g2
    go_wp2_with fail
    refine (CP.out _).mono ?_
    rintro e w2 ⟨rfl, hb2⟩
    have hb3 : Below w1.heap.size w1 w2 := bvia (by first | exact Below.refl _ _ | go_grown) hb2
    have z1 := HB1.out.size
    rw [S0.out] at z1
    have hb1' := HB1.out.trans (hb3.mono z1)
    have B2 := Lib.hid (bvia B1.out hb3)
    clear y0 y1 f0 f1 q2 G2 z1
    have g1 := F0.out w2 hb1' 1 _ rfl
    have g2 := F0.out w2 hb1' 2 _ rfl
    have z0 : w2.cell? ⟨w.heap.size + 1, 0, none⟩ = some (.int .i64 x) := g1.cell 0
    have z1 : w2.cell? ⟨w.heap.size + 1, 1, none⟩ = some (.int .i64 y) := g1.cell 1
    have y0 : w2.cell? ⟨w.heap.size + 1 + 1, 0, none⟩ = some (.int .i64 0) := g2.cell 0
    have y1 : w2.cell? ⟨w.heap.size + 1 + 1, 1, none⟩ = some (.int .i64 0) := g2.cell 1
    have f0 : w2.frozen? ⟨w.heap.size + 1 + 1, 0, none⟩ = false := g2.free 0
    have f1 : w2.frozen? ⟨w.heap.size + 1 + 1, 1, none⟩ = false := g2.free 1
    have q2 : w.heap.size + 1 + 1 < w2.heap.size := g2.lt
    have G2 : Hid (Has w2 (w.heap.size + 1 + 1) 25 [.int .i64 0, .int .i64 0]) := g2
    clear hb2 hb3 hb1' g1 g2
    go_wp2
    refine post_cell_tmp (g := w.heap.size + 1 + 1) (t := 25) (cs := [.int .i64 0, .int .i64 0]) (v := .int .i64 2) ?_ rfl rfl rfl rfl Try.underlying25 (by kernel_rfl) ⟨rfl, ?_⟩
    · first | exact (G2.out.set 0 _).set 1 _ | (trace_state; sorry)
    · first | exact (B2.out.setCell (p := ⟨w.heap.size + 1 + 1, 0, none⟩) (show w.heap.size ≤ w.heap.size + 1 + 1 by omega) _).setCell (p := ⟨w.heap.size + 1 + 1, 1, none⟩) (show w.heap.size ≤ w.heap.size + 1 + 1 by omega) _ | (trace_state; sorry)
  | true =>
  rw [hP] at CP
  rw [if_pos ⟨rfl, rfl⟩]
  obtain ⟨⟨ha, hb, hc, hd⟩, hu, hv⟩ := (okV_iff a b c d u v).1 hV
  obtain ⟨hx, hy⟩ := (okP_iff x y).1 hP
  have CI : Hid (∀ W, Calls Try.prog 79 #[vV a b c d u v, vP x y] W fun e w' => e = .returned (vP (imX a b u x y) (imX c d v x y)) ∧ Below W.heap.size W w') := fun W => rappC a b c d u v x y W hV hP
  clear ha hb hc hd hu hv hx hy hV hP
  generalize imX a b u x y = p at *
  generalize imX c d v x y = q at *
  have CQ := Lib.hid (fun W => refP p q W)
  cases hQ : okP p q with
  | false =>
    rw [hQ] at CQ
    rw [if_neg (fun h => absurd h (by decide))]
    clear hQ
    go_enter Try.func36, Try.ntmps36
    go_wp2_with fail
    refine (CM.out _).mono ?_
    rintro e w1 ⟨rfl, hb1⟩
    have B1 := Lib.hid (bvia B0.out hb1)
    have hb1' : Below (w.heap.size + 3) (boxW w [cV a b c d u v, cP x y, cP 0 0]) w1 := by rw [← S0.out]; exact hb1
    have g1 := F0.out w1 hb1' 1 _ rfl
    have g2 := F0.out w1 hb1' 2 _ rfl
    have z0 : w1.cell? ⟨w.heap.size + 1, 0, none⟩ = some (.int .i64 x) := g1.cell 0
    have z1 : w1.cell? ⟨w.heap.size + 1, 1, none⟩ = some (.int .i64 y) := g1.cell 1
    have y0 : w1.cell? ⟨w.heap.size + 1 + 1, 0, none⟩ = some (.int .i64 0) := g2.cell 0
    have y1 : w1.cell? ⟨w.heap.size + 1 + 1, 1, none⟩ = some (.int .i64 0) := g2.cell 1
    have f0 : w1.frozen? ⟨w.heap.size + 1 + 1, 0, none⟩ = false := g2.free 0
    have f1 : w1.frozen? ⟨w.heap.size + 1 + 1, 1, none⟩ = false := g2.free 1
    have q2 : w.heap.size + 1 + 1 < w1.heap.size := g2.lt
    have G2 : Hid (Has w1 (w.heap.size + 1 + 1) 25 [.int .i64 0, .int .i64 0]) := g2
    have HB1 := Lib.hid hb1'
    clear hb1 hb1' g1 g2
    go_wp2_with fail
    refine (CP.out _).mono ?_
    rintro e w2 ⟨rfl, hb2⟩
    have hb3 : Below w1.heap.size w1 w2 := bvia (by first | exact Below.refl _ _ | go_grown) hb2
    have z9 := HB1.out.size
    rw [S0.out] at z9
    have hb1' := HB1.out.trans (hb3.mono z9)
    have B2 := Lib.hid (bvia B1.out hb3)
    clear y0 y1 f0 f1 q2 G2 z9 z0 z1
    have g1 := F0.out w2 hb1' 1 _ rfl
    have g2 := F0.out w2 hb1' 2 _ rfl
    have z0 : w2.cell? ⟨w.heap.size + 1, 0, none⟩ = some (.int .i64 x) := g1.cell 0
    have z1 : w2.cell? ⟨w.heap.size + 1, 1, none⟩ = some (.int .i64 y) := g1.cell 1
    have y0 : w2.cell? ⟨w.heap.size + 1 + 1, 0, none⟩ = some (.int .i64 0) := g2.cell 0
    have y1 : w2.cell? ⟨w.heap.size + 1 + 1, 1, none⟩ = some (.int .i64 0) := g2.cell 1
    have f0 : w2.frozen? ⟨w.heap.size + 1 + 1, 0, none⟩ = false := g2.free 0
    have f1 : w2.frozen? ⟨w.heap.size + 1 + 1, 1, none⟩ = false := g2.free 1
    have q2 : w.heap.size + 1 + 1 < w2.heap.size := g2.lt
    have G2 : Hid (Has w2 (w.heap.size + 1 + 1) 25 [.int .i64 0, .int .i64 0]) := g2
    have g0 := F0.out w2 hb1' 0 _ rfl
    have v0 : w2.cell? ⟨w.heap.size, 0, none⟩ = some (.int .i64 a) := g0.cell 0
    have v1 : w2.cell? ⟨w.heap.size, 1, none⟩ = some (.int .i64 b) := g0.cell 1
    have v2 : w2.cell? ⟨w.heap.size, 2, none⟩ = some (.int .i64 c) := g0.cell 2
    have v3 : w2.cell? ⟨w.heap.size, 3, none⟩ = some (.int .i64 d) := g0.cell 3
    have v4 : w2.cell? ⟨w.heap.size, 4, none⟩ = some (.int .i64 u) := g0.cell 4
    have v5 : w2.cell? ⟨w.heap.size, 5, none⟩ = some (.int .i64 v) := g0.cell 5
    have HB2 := Lib.hid hb1'
    clear hb2 hb3 hb1' g0 g1 g2 HB1
    go_wp2_with fail
    refine (CI.out _).mono ?_
    rintro e w3 ⟨rfl, hb3⟩
    have z9 := HB2.out.size
    rw [S0.out] at z9
    have HB3 := Lib.hid (HB2.out.trans (hb3.mono z9))
    have B3 := Lib.hid (bvia B2.out hb3)
    have z8 := HB3.out.size
    rw [S0.out] at z8
    have hK : Has (w3.alloc (.cells #[.int .i64 p, .int .i64 q] 25)) w3.heap.size 25 [.int .i64 p, .int .i64 q] := Has.new rfl
    have HK := Lib.hid hK
    have D3 := Lib.hid ((Below.refl w3.heap.size w3).alloc (Nat.le_refl _) (.cells #[.int .i64 p, .int .i64 q] 25))
    clear hK hb3 y0 y1 f0 f1 q2 G2 z9 z0 z1 v0 v1 v2 v3 v4 v5 HB2
    go_wp2_with fail
    refine (CQ.out _).mono ?_
    rintro e w4 ⟨rfl, hb4⟩
    have hb5 : Below (w3.alloc (.cells #[.int .i64 p, .int .i64 q] 25)).heap.size (w3.alloc (.cells #[.int .i64 p, .int .i64 q] 25)) w4 := bvia (by first | exact Below.refl _ _ | go_grown) hb4
    have hk4 := HK.out.below hb5 HK.out.lt
    have k0 : w4.cell? ⟨w3.heap.size, 0, none⟩ = some (.int .i64 p) := hk4.cell 0
    have k1 : w4.cell? ⟨w3.heap.size, 1, none⟩ = some (.int .i64 q) := hk4.cell 1
    have hb6 := bvia D3.out hb5
    have hb1' := HB3.out.trans (hb6.mono z8)
    have B4 := Lib.hid (bvia B3.out hb6)
    have g1 := F0.out w4 hb1' 1 _ rfl
    have g2 := F0.out w4 hb1' 2 _ rfl
    have z0 : w4.cell? ⟨w.heap.size + 1, 0, none⟩ = some (.int .i64 x) := g1.cell 0
    have z1 : w4.cell? ⟨w.heap.size + 1, 1, none⟩ = some (.int .i64 y) := g1.cell 1
    have y0 : w4.cell? ⟨w.heap.size + 1 + 1, 0, none⟩ = some (.int .i64 0) := g2.cell 0
    have y1 : w4.cell? ⟨w.heap.size + 1 + 1, 1, none⟩ = some (.int .i64 0) := g2.cell 1
    have f0 : w4.frozen? ⟨w.heap.size + 1 + 1, 0, none⟩ = false := g2.free 0
    have f1 : w4.frozen? ⟨w.heap.size + 1 + 1, 1, none⟩ = false := g2.free 1
    have q2 : w.heap.size + 1 + 1 < w4.heap.size := g2.lt
    have G2 : Hid (Has w4 (w.heap.size + 1 + 1) 25 [.int .i64 0, .int .i64 0]) := g2
    clear hb4 hb5 hb6 hb1' hk4 g1 g2 HB3 D3 HK
    go_wp2
    refine post_cell_tmp (g := w.heap.size + 1 + 1) (t := 25) (cs := [.int .i64 0, .int .i64 0]) (v := .int .i64 7) ?_ rfl rfl rfl rfl Try.underlying25 (by kernel_rfl) ⟨rfl, ?_⟩
    · first | exact (G2.out.set 0 _).set 1 _ | (trace_state; sorry)
    · first | exact (B4.out.setCell (p := ⟨w.heap.size + 1 + 1, 0, none⟩) (show w.heap.size ≤ w.heap.size + 1 + 1 by omega) _).setCell (p := ⟨w.heap.size + 1 + 1, 1, none⟩) (show w.heap.size ≤ w.heap.size + 1 + 1 by omega) _ | (trace_state; sorry)
  | true =>
    rw [hQ] at CQ
    rw [if_pos rfl]
    clear hQ
    go_enter Try.func36, Try.ntmps36
    go_wp2_with fail
    refine (CM.out _).mono ?_
    rintro e w1 ⟨rfl, hb1⟩
    have B1 := Lib.hid (bvia B0.out hb1)
    have hb1' : Below (w.heap.size + 3) (boxW w [cV a b c d u v, cP x y, cP 0 0]) w1 := by rw [← S0.out]; exact hb1
    have g1 := F0.out w1 hb1' 1 _ rfl
    have g2 := F0.out w1 hb1' 2 _ rfl
    have z0 : w1.cell? ⟨w.heap.size + 1, 0, none⟩ = some (.int .i64 x) := g1.cell 0
    have z1 : w1.cell? ⟨w.heap.size + 1, 1, none⟩ = some (.int .i64 y) := g1.cell 1
    have y0 : w1.cell? ⟨w.heap.size + 1 + 1, 0, none⟩ = some (.int .i64 0) := g2.cell 0
    have y1 : w1.cell? ⟨w.heap.size + 1 + 1, 1, none⟩ = some (.int .i64 0) := g2.cell 1
    have f0 : w1.frozen? ⟨w.heap.size + 1 + 1, 0, none⟩ = false := g2.free 0
    have f1 : w1.frozen? ⟨w.heap.size + 1 + 1, 1, none⟩ = false := g2.free 1
    have q2 : w.heap.size + 1 + 1 < w1.heap.size := g2.lt
    have G2 : Hid (Has w1 (w.heap.size + 1 + 1) 25 [.int .i64 0, .int .i64 0]) := g2
    have HB1 := Lib.hid hb1'
    clear hb1 hb1' g1 g2
    go_wp2_with fail
    refine (CP.out _).mono ?_
    rintro e w2 ⟨rfl, hb2⟩
    have hb3 : Below w1.heap.size w1 w2 := bvia (by first | exact Below.refl _ _ | go_grown) hb2
    have z9 := HB1.out.size
    rw [S0.out] at z9
    have hb1' := HB1.out.trans (hb3.mono z9)
    have B2 := Lib.hid (bvia B1.out hb3)
    clear y0 y1 f0 f1 q2 G2 z9 z0 z1
    have g1 := F0.out w2 hb1' 1 _ rfl
    have g2 := F0.out w2 hb1' 2 _ rfl
    have z0 : w2.cell? ⟨w.heap.size + 1, 0, none⟩ = some (.int .i64 x) := g1.cell 0
    have z1 : w2.cell? ⟨w.heap.size + 1, 1, none⟩ = some (.int .i64 y) := g1.cell 1
    have y0 : w2.cell? ⟨w.heap.size + 1 + 1, 0, none⟩ = some (.int .i64 0) := g2.cell 0
    have y1 : w2.cell? ⟨w.heap.size + 1 + 1, 1, none⟩ = some (.int .i64 0) := g2.cell 1
    have f0 : w2.frozen? ⟨w.heap.size + 1 + 1, 0, none⟩ = false := g2.free 0
    have f1 : w2.frozen? ⟨w.heap.size + 1 + 1, 1, none⟩ = false := g2.free 1
    have q2 : w.heap.size + 1 + 1 < w2.heap.size := g2.lt
    have G2 : Hid (Has w2 (w.heap.size + 1 + 1) 25 [.int .i64 0, .int .i64 0]) := g2
    have g0 := F0.out w2 hb1' 0 _ rfl
    have v0 : w2.cell? ⟨w.heap.size, 0, none⟩ = some (.int .i64 a) := g0.cell 0
    have v1 : w2.cell? ⟨w.heap.size, 1, none⟩ = some (.int .i64 b) := g0.cell 1
    have v2 : w2.cell? ⟨w.heap.size, 2, none⟩ = some (.int .i64 c) := g0.cell 2
    have v3 : w2.cell? ⟨w.heap.size, 3, none⟩ = some (.int .i64 d) := g0.cell 3
    have v4 : w2.cell? ⟨w.heap.size, 4, none⟩ = some (.int .i64 u) := g0.cell 4
    have v5 : w2.cell? ⟨w.heap.size, 5, none⟩ = some (.int .i64 v) := g0.cell 5
    have HB2 := Lib.hid hb1'
    clear hb2 hb3 hb1' g0 g1 g2 HB1
    go_wp2_with fail
    refine (CI.out _).mono ?_
    rintro e w3 ⟨rfl, hb3⟩
    have z9 := HB2.out.size
    rw [S0.out] at z9
    have HB3 := Lib.hid (HB2.out.trans (hb3.mono z9))
    have B3 := Lib.hid (bvia B2.out hb3)
    have z8 := HB3.out.size
    rw [S0.out] at z8
    have hK : Has (w3.alloc (.cells #[.int .i64 p, .int .i64 q] 25)) w3.heap.size 25 [.int .i64 p, .int .i64 q] := Has.new rfl
    have HK := Lib.hid hK
    have D3 := Lib.hid ((Below.refl w3.heap.size w3).alloc (Nat.le_refl _) (.cells #[.int .i64 p, .int .i64 q] 25))
    clear hK hb3 y0 y1 f0 f1 q2 G2 z9 z0 z1 v0 v1 v2 v3 v4 v5 HB2
    go_wp2_with fail
    refine (CQ.out _).mono ?_
    rintro e w4 ⟨rfl, hb4⟩
    have hb5 : Below (w3.alloc (.cells #[.int .i64 p, .int .i64 q] 25)).heap.size (w3.alloc (.cells #[.int .i64 p, .int .i64 q] 25)) w4 := bvia (by first | exact Below.refl _ _ | go_grown) hb4
    have hk4 := HK.out.below hb5 HK.out.lt
    have k0 : w4.cell? ⟨w3.heap.size, 0, none⟩ = some (.int .i64 p) := hk4.cell 0
    have k1 : w4.cell? ⟨w3.heap.size, 1, none⟩ = some (.int .i64 q) := hk4.cell 1
    have hb6 := bvia D3.out hb5
    have hb1' := HB3.out.trans (hb6.mono z8)
    have B4 := Lib.hid (bvia B3.out hb6)
    have g1 := F0.out w4 hb1' 1 _ rfl
    have g2 := F0.out w4 hb1' 2 _ rfl
    have z0 : w4.cell? ⟨w.heap.size + 1, 0, none⟩ = some (.int .i64 x) := g1.cell 0
    have z1 : w4.cell? ⟨w.heap.size + 1, 1, none⟩ = some (.int .i64 y) := g1.cell 1
    have y0 : w4.cell? ⟨w.heap.size + 1 + 1, 0, none⟩ = some (.int .i64 0) := g2.cell 0
    have y1 : w4.cell? ⟨w.heap.size + 1 + 1, 1, none⟩ = some (.int .i64 0) := g2.cell 1
    have f0 : w4.frozen? ⟨w.heap.size + 1 + 1, 0, none⟩ = false := g2.free 0
    have f1 : w4.frozen? ⟨w.heap.size + 1 + 1, 1, none⟩ = false := g2.free 1
    have q2 : w.heap.size + 1 + 1 < w4.heap.size := g2.lt
    have G2 : Hid (Has w4 (w.heap.size + 1 + 1) 25 [.int .i64 0, .int .i64 0]) := g2
    clear hb4 hb5 hb6 hb1' hk4 g1 g2 HB3 D3 HK
    go_wp2
    refine post_cell_tmp (g := w.heap.size + 1 + 1) (t := 25) (cs := [.int .i64 p, .int .i64 q]) (v := .int .i64 0) ?_ rfl rfl rfl rfl Try.underlying25 (by kernel_rfl) ⟨rfl, ?_⟩
    · first | exact (G2.out.set 0 _).set 1 _ | (trace_state; sorry)
    · first | exact (B4.out.setCell (p := ⟨w.heap.size + 1 + 1, 0, none⟩) (show w.heap.size ≤ w.heap.size + 1 + 1 by omega) _).setCell (p := ⟨w.heap.size + 1 + 1, 1, none⟩) (show w.heap.size ≤ w.heap.size + 1 + 1 by omega) _ | (trace_state; sorry)
end Go.Proofs.Ytmghpaibdgkbfaa
/-
  Contracts of chapter 6: valid, the program's.
-/
namespace Go.Proofs.Ytmghpaibdgkbfaa
open Go.RowKit
set_option maxRecDepth 100000 in
set_option maxHeartbeats 1000000 in
theorem validC (a b c d u v : Int) (w : World) : Calls Try.prog 80 #[vV a b c d u v] w fun e w' => e = .returned (.tuple #[if okV a b c d u v = true then vV a b c d u v else vV 0 0 0 0 0 0, .int .i64 (if okV a b c d u v = true then 0 else 7)]) ∧ Below w.heap.size w w' := by
  have CM := Lib.hid (fun W => moveC a b c d u v W)
  have F0 := Lib.hid (fun (W : World) (hb : Below (w.heap.size + 2) (boxW w [cV a b c d u v, cV 0 0 0 0 0 0]) W) => fun i z h => box_has [cV a b c d u v, cV 0 0 0 0 0 0] hb (i := i) (c := z) h)
  have S0 : Hid ((boxW w [cV a b c d u v, cV 0 0 0 0 0 0]).heap.size = w.heap.size + 2) := boxW_size [cV a b c d u v, cV 0 0 0 0 0 0] w
  have B0 := Lib.hid (boxW_below [cV a b c d u v, cV 0 0 0 0 0 0] w)
  cases hV : okV a b c d u v with
  | false =>
    rw [hV] at CM
    rw [if_neg (by decide), if_neg (by decide)]
    clear hV
    go_enter Try.func80, Try.ntmps80
    go_wp2_with fail
    refine (CM.out _).mono ?_
    rintro e w1 ⟨rfl, hb1⟩
    have B1 := Lib.hid (bvia B0.out hb1)
    have hb1' : Below (w.heap.size + 2) (boxW w [cV a b c d u v, cV 0 0 0 0 0 0]) w1 := by rw [← S0.out]; exact hb1
    have g0 := F0.out w1 hb1' 0 _ rfl
    have g1 := F0.out w1 hb1' 1 _ rfl
    have x0 : w1.cell? ⟨w.heap.size, 0, none⟩ = some (.int .i64 a) := g0.cell 0
    have x1 : w1.cell? ⟨w.heap.size, 1, none⟩ = some (.int .i64 b) := g0.cell 1
    have x2 : w1.cell? ⟨w.heap.size, 2, none⟩ = some (.int .i64 c) := g0.cell 2
    have x3 : w1.cell? ⟨w.heap.size, 3, none⟩ = some (.int .i64 d) := g0.cell 3
    have x4 : w1.cell? ⟨w.heap.size, 4, none⟩ = some (.int .i64 u) := g0.cell 4
    have x5 : w1.cell? ⟨w.heap.size, 5, none⟩ = some (.int .i64 v) := g0.cell 5
    have y0 : w1.cell? ⟨w.heap.size + 1, 0, none⟩ = some (.int .i64 0) := g1.cell 0
    have y1 : w1.cell? ⟨w.heap.size + 1, 1, none⟩ = some (.int .i64 0) := g1.cell 1
    have y2 : w1.cell? ⟨w.heap.size + 1, 2, none⟩ = some (.int .i64 0) := g1.cell 2
    have y3 : w1.cell? ⟨w.heap.size + 1, 3, none⟩ = some (.int .i64 0) := g1.cell 3
    have y4 : w1.cell? ⟨w.heap.size + 1, 4, none⟩ = some (.int .i64 0) := g1.cell 4
    have y5 : w1.cell? ⟨w.heap.size + 1, 5, none⟩ = some (.int .i64 0) := g1.cell 5
    have f0 : w1.frozen? ⟨w.heap.size + 1, 0, none⟩ = false := g1.free 0
    have f1 : w1.frozen? ⟨w.heap.size + 1, 1, none⟩ = false := g1.free 1
    have f2 : w1.frozen? ⟨w.heap.size + 1, 2, none⟩ = false := g1.free 2
    have f3 : w1.frozen? ⟨w.heap.size + 1, 3, none⟩ = false := g1.free 3
    have f4 : w1.frozen? ⟨w.heap.size + 1, 4, none⟩ = false := g1.free 4
    have f5 : w1.frozen? ⟨w.heap.size + 1, 5, none⟩ = false := g1.free 5
    have q1 : w.heap.size + 1 < w1.heap.size := g1.lt
    have G2 : Hid (Has w1 (w.heap.size + 1) 58 [.int .i64 0, .int .i64 0, .int .i64 0, .int .i64 0, .int .i64 0, .int .i64 0]) := g1
    clear hb1 hb1' g0 g1 F0 S0 B0 CM
    go_wp2
    refine post_cell_tmp (g := w.heap.size + 1) (t := 58) (cs := [.int .i64 0, .int .i64 0, .int .i64 0, .int .i64 0, .int .i64 0, .int .i64 0]) (v := .int .i64 7) ?_ rfl rfl rfl rfl Try.underlying58 (by kernel_rfl) ⟨rfl, ?_⟩
    · exact ((((((G2.out.set 0 _).set 1 _).set 2 _).set 3 _).set 4 _).set 5 _)
    · exact ((((((B1.out.setCell (p := ⟨w.heap.size + 1, 0, none⟩) (show w.heap.size ≤ w.heap.size + 1 by omega) _).setCell (p := ⟨w.heap.size + 1, 1, none⟩) (show w.heap.size ≤ w.heap.size + 1 by omega) _).setCell (p := ⟨w.heap.size + 1, 2, none⟩) (show w.heap.size ≤ w.heap.size + 1 by omega) _).setCell (p := ⟨w.heap.size + 1, 3, none⟩) (show w.heap.size ≤ w.heap.size + 1 by omega) _).setCell (p := ⟨w.heap.size + 1, 4, none⟩) (show w.heap.size ≤ w.heap.size + 1 by omega) _).setCell (p := ⟨w.heap.size + 1, 5, none⟩) (show w.heap.size ≤ w.heap.size + 1 by omega) _)
  | true =>
    rw [hV] at CM
    rw [if_pos rfl, if_pos rfl]
    clear hV
    go_enter Try.func80, Try.ntmps80
    go_wp2_with fail
    refine (CM.out _).mono ?_
    rintro e w1 ⟨rfl, hb1⟩
    have B1 := Lib.hid (bvia B0.out hb1)
    have hb1' : Below (w.heap.size + 2) (boxW w [cV a b c d u v, cV 0 0 0 0 0 0]) w1 := by rw [← S0.out]; exact hb1
    have g0 := F0.out w1 hb1' 0 _ rfl
    have g1 := F0.out w1 hb1' 1 _ rfl
    have x0 : w1.cell? ⟨w.heap.size, 0, none⟩ = some (.int .i64 a) := g0.cell 0
    have x1 : w1.cell? ⟨w.heap.size, 1, none⟩ = some (.int .i64 b) := g0.cell 1
    have x2 : w1.cell? ⟨w.heap.size, 2, none⟩ = some (.int .i64 c) := g0.cell 2
    have x3 : w1.cell? ⟨w.heap.size, 3, none⟩ = some (.int .i64 d) := g0.cell 3
    have x4 : w1.cell? ⟨w.heap.size, 4, none⟩ = some (.int .i64 u) := g0.cell 4
    have x5 : w1.cell? ⟨w.heap.size, 5, none⟩ = some (.int .i64 v) := g0.cell 5
    have y0 : w1.cell? ⟨w.heap.size + 1, 0, none⟩ = some (.int .i64 0) := g1.cell 0
    have y1 : w1.cell? ⟨w.heap.size + 1, 1, none⟩ = some (.int .i64 0) := g1.cell 1
    have y2 : w1.cell? ⟨w.heap.size + 1, 2, none⟩ = some (.int .i64 0) := g1.cell 2
    have y3 : w1.cell? ⟨w.heap.size + 1, 3, none⟩ = some (.int .i64 0) := g1.cell 3
    have y4 : w1.cell? ⟨w.heap.size + 1, 4, none⟩ = some (.int .i64 0) := g1.cell 4
    have y5 : w1.cell? ⟨w.heap.size + 1, 5, none⟩ = some (.int .i64 0) := g1.cell 5
    have f0 : w1.frozen? ⟨w.heap.size + 1, 0, none⟩ = false := g1.free 0
    have f1 : w1.frozen? ⟨w.heap.size + 1, 1, none⟩ = false := g1.free 1
    have f2 : w1.frozen? ⟨w.heap.size + 1, 2, none⟩ = false := g1.free 2
    have f3 : w1.frozen? ⟨w.heap.size + 1, 3, none⟩ = false := g1.free 3
    have f4 : w1.frozen? ⟨w.heap.size + 1, 4, none⟩ = false := g1.free 4
    have f5 : w1.frozen? ⟨w.heap.size + 1, 5, none⟩ = false := g1.free 5
    have q1 : w.heap.size + 1 < w1.heap.size := g1.lt
    have G2 : Hid (Has w1 (w.heap.size + 1) 58 [.int .i64 0, .int .i64 0, .int .i64 0, .int .i64 0, .int .i64 0, .int .i64 0]) := g1
    clear hb1 hb1' g0 g1 F0 S0 B0 CM
    go_wp2
    refine post_cell_tmp (g := w.heap.size + 1) (t := 58) (cs := [.int .i64 a, .int .i64 b, .int .i64 c, .int .i64 d, .int .i64 u, .int .i64 v]) (v := .int .i64 0) ?_ rfl rfl rfl rfl Try.underlying58 (by kernel_rfl) ⟨rfl, ?_⟩
    · exact ((((((G2.out.set 0 _).set 1 _).set 2 _).set 3 _).set 4 _).set 5 _)
    · exact ((((((B1.out.setCell (p := ⟨w.heap.size + 1, 0, none⟩) (show w.heap.size ≤ w.heap.size + 1 by omega) _).setCell (p := ⟨w.heap.size + 1, 1, none⟩) (show w.heap.size ≤ w.heap.size + 1 by omega) _).setCell (p := ⟨w.heap.size + 1, 2, none⟩) (show w.heap.size ≤ w.heap.size + 1 by omega) _).setCell (p := ⟨w.heap.size + 1, 3, none⟩) (show w.heap.size ≤ w.heap.size + 1 by omega) _).setCell (p := ⟨w.heap.size + 1, 4, none⟩) (show w.heap.size ≤ w.heap.size + 1 by omega) _).setCell (p := ⟨w.heap.size + 1, 5, none⟩) (show w.heap.size ≤ w.heap.size + 1 by omega) _)
end Go.Proofs.Ytmghpaibdgkbfaa
