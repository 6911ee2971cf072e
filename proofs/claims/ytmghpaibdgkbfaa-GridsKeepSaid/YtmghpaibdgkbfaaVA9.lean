/-
  Contracts of chapter 6: Apply, the program's and the document's.
-/
import Derived.Test.YtmghpaibdgkbfaaVA8
namespace Go.Proofs.Ytmghpaibdgkbfaa
open Go.RowKit
def imX (a b u x y : Int) : Int := a * x + b * y + u
def apR (a b c d u v x y : Int) : Int × Int × Int :=
  if okV a b c d u v = true ∧ okP x y = true then (if okP (imX a b u x y) (imX c d v x y) = true then (imX a b u x y, imX c d v x y, 0) else (0, 0, 7)) else (0, 0, 2)
theorem okV_iff (a b c d u v : Int) : okV a b c d u v = true ↔ (In6 10000 a ∧ In6 10000 b ∧ In6 10000 c ∧ In6 10000 d) ∧ (In6 1000000 u ∧ In6 1000000 v) := by
  unfold okV
  rw [Bool.and_eq_true, okM_iff, okP_iff]
set_option maxRecDepth 100000 in
set_option maxHeartbeats 1000000 in
theorem rappC (a b c d u v x y : Int) (w : World) (hV : okV a b c d u v = true) (hP : okP x y = true) : Calls Try.prog 79 #[vV a b c d u v, vP x y] w fun e w' => e = .returned (vP (imX a b u x y) (imX c d v x y)) ∧ Below w.heap.size w w' := by
  obtain ⟨⟨ha, hb, hc, hd⟩, hu, hv⟩ := (okV_iff a b c d u v).1 hV
  obtain ⟨hx, hy⟩ := (okP_iff x y).1 hP
  have CI := Lib.hid (fun W => rimageC a b c d x y 10000 1000000 W ha hb hc hd hx hy (by decide))
  have m1 := mb 10000 1000000 10000000000 ha hx (by decide)
  have m2 := mb 10000 1000000 10000000000 hb hy (by decide)
  have m3 := mb 10000 1000000 10000000000 hc hx (by decide)
  have m4 := mb 10000 1000000 10000000000 hd hy (by decide)
  have i7 : IntKind.i64.wrap (a * x + b * y + u) = a * x + b * y + u := IntWalk.i64_in _ (by omega)
  have i8 : IntKind.i64.wrap (c * x + d * y + v) = c * x + d * y + v := IntWalk.i64_in _ (by omega)
  unfold imX
  obtain ⟨p, hp⟩ : ∃ p, p = a * x + b * y := ⟨_, rfl⟩
  obtain ⟨q, hq⟩ : ∃ q, q = c * x + d * y := ⟨_, rfl⟩
  rw [← hp] at i7 CI ⊢
  rw [← hq] at i8 CI ⊢
  clear hp hq ha hb hc hd hu hv hx hy m1 m2 m3 m4 hV hP
  have F0 := Lib.hid (fun (W : World) (hb : Below (w.heap.size + 3) (boxW w [cV a b c d u v, cP x y, cP 0 0]) W) => fun i z h => box_has [cV a b c d u v, cP x y, cP 0 0] hb (i := i) (c := z) h)
  have S0 : Hid ((boxW w [cV a b c d u v, cP x y, cP 0 0]).heap.size = w.heap.size + 3) := boxW_size [cV a b c d u v, cP x y, cP 0 0] w
  have B0 := Lib.hid (boxW_below [cV a b c d u v, cP x y, cP 0 0] w)
  go_enter Try.func79, Try.ntmps79
  go_wp2_with fail
  refine (CI.out _).mono ?_
  rintro e w1 ⟨rfl, hb1⟩
  have B1 := Lib.hid (bvia B0.out hb1)
  have hb1' : Below (w.heap.size + 3) (boxW w [cV a b c d u v, cP x y, cP 0 0]) w1 := by rw [← S0.out]; exact hb1
  have g0 := F0.out w1 hb1' 0 _ rfl
  have g2 := F0.out w1 hb1' 2 _ rfl
  have x4 : w1.cell? ⟨w.heap.size, 4, none⟩ = some (.int .i64 u) := g0.cell 4
  have x5 : w1.cell? ⟨w.heap.size, 5, none⟩ = some (.int .i64 v) := g0.cell 5
  have y0 : w1.cell? ⟨w.heap.size + 1 + 1, 0, none⟩ = some (.int .i64 0) := g2.cell 0
  have y1 : w1.cell? ⟨w.heap.size + 1 + 1, 1, none⟩ = some (.int .i64 0) := g2.cell 1
  have f0 : w1.frozen? ⟨w.heap.size + 1 + 1, 0, none⟩ = false := g2.free 0
  have f1 : w1.frozen? ⟨w.heap.size + 1 + 1, 1, none⟩ = false := g2.free 1
  have q0 : w.heap.size < w1.heap.size := g0.lt
  have q2 : w.heap.size + 1 + 1 < w1.heap.size := g2.lt
  have G2 : Hid (Has w1 (w.heap.size + 1 + 1) 25 [.int .i64 0, .int .i64 0]) := g2
  clear hb1 hb1' g0 g2 F0 S0 B0 CI
  go_wp2
  refine post_cell (g := w.heap.size + 1 + 1) (t := 25) (cs := [.int .i64 (p + u), .int .i64 (q + v)]) ?_ rfl rfl rfl Try.underlying25 (by kernel_rfl) ⟨rfl, ?_⟩
  · first | exact ((G2.out.alloc _).set 0 _).set 1 _ | exact ((G2.out.set 0 _).set 1 _).alloc _ | (trace_state; sorry)
  · first | exact bvia ((B1.out.setCell (p := ⟨w.heap.size + 1 + 1, 0, none⟩) (show w.heap.size ≤ w.heap.size + 1 + 1 by omega) _).setCell (p := ⟨w.heap.size + 1 + 1, 1, none⟩) (show w.heap.size ≤ w.heap.size + 1 + 1 by omega) _) ((Below.refl _ _).alloc (Nat.le_refl _) _) | exact ((bvia B1.out ((Below.refl _ w1).alloc (Nat.le_refl _) _)).setCell (p := ⟨w.heap.size + 1 + 1, 0, none⟩) (show w.heap.size ≤ w.heap.size + 1 + 1 by omega) _).setCell (p := ⟨w.heap.size + 1 + 1, 1, none⟩) (show w.heap.size ≤ w.heap.size + 1 + 1 by omega) _ | (trace_state; sorry)
set_option maxRecDepth 100000 in
set_option maxHeartbeats 1000000 in
theorem applyC (a b c d u v x y : Int) (w : World) : Calls Try.prog 35 #[vV a b c d u v, vP x y] w fun e w' => e = .returned (.tuple #[vP (apR a b c d u v x y).1 (apR a b c d u v x y).2.1, .int .i64 (apR a b c d u v x y).2.2]) ∧ Below w.heap.size w w' := by
  have CM := Lib.hid (fun W => moveC a b c d u v W)
  have F0 := Lib.hid (fun (W : World) (hb : Below (w.heap.size + 3) (boxW w [cV a b c d u v, cP x y, cP 0 0]) W) => fun i z h => box_has [cV a b c d u v, cP x y, cP 0 0] hb (i := i) (c := z) h)
  have S0 : Hid ((boxW w [cV a b c d u v, cP x y, cP 0 0]).heap.size = w.heap.size + 3) := boxW_size [cV a b c d u v, cP x y, cP 0 0] w
  have B0 := Lib.hid (boxW_below [cV a b c d u v, cP x y, cP 0 0] w)
  unfold apR
  cases hV : okV a b c d u v with
  | false =>
    rw [hV] at CM
    rw [if_neg (fun h => absurd h.1 (by decide))]
    clear hV
    go_enter Try.func35, Try.ntmps35
    go_wp2_with fail
    refine (CM.out _).mono ?_
    rintro e w1 ⟨rfl, hb1⟩
    have B1 := Lib.hid (bvia B0.out hb1)
    have hb1' : Below (w.heap.size + 3) (boxW w [cV a b c d u v, cP x y, cP 0 0]) w1 := by rw [← S0.out]; exact hb1
    have g1 := F0.out w1 hb1' 1 _ rfl
    have g2 := F0.out w1 hb1' 2 _ rfl
    have z0 : w1.cell? ⟨w.heap.size + 1, 0, none⟩ = some (.int .i64 x) := g1.cell 0
    have z1 : w1.cell? ⟨w.heap.size + 1, 1, none⟩ = some (.int .i64 y) := g1.cell 1
    have y0 : w1.cell? ⟨w.heap.size + 1 + 1, 0, none⟩ = some (.int .i64 0) := g2.cell 0
    have y1 : w1.cell? ⟨w.heap.size + 1 + 1, 1, none⟩ = some (.int .i64 0) := g2.cell 1
    have f0 : w1.frozen? ⟨w.heap.size + 1 + 1, 0, none⟩ = false := g2.free 0
    have f1 : w1.frozen? ⟨w.heap.size + 1 + 1, 1, none⟩ = false := g2.free 1
    have q2 : w.heap.size + 1 + 1 < w1.heap.size := g2.lt
    have G2 : Hid (Has w1 (w.heap.size + 1 + 1) 25 [.int .i64 0, .int .i64 0]) := g2
    clear hb1 hb1' g1 g2
    go_wp2
    refine post_cell_tmp (g := w.heap.size + 1 + 1) (t := 25) (cs := [.int .i64 0, .int .i64 0]) (v := .int .i64 2) ?_ rfl rfl rfl rfl Try.underlying25 (by kernel_rfl) ⟨rfl, ?_⟩
    · first | exact (G2.out.set 0 _).set 1 _ | (trace_state; sorry)
    · first | exact (B1.out.setCell (p := ⟨w.heap.size + 1 + 1, 0, none⟩) (show w.heap.size ≤ w.heap.size + 1 + 1 by omega) _).setCell (p := ⟨w.heap.size + 1 + 1, 1, none⟩) (show w.heap.size ≤ w.heap.size + 1 + 1 by omega) _ | (trace_state; sorry)
  | true =>
  rw [hV] at CM
  have CP := Lib.hid (fun (W : World) => pointC (some ⟨W.heap.size, 0, none⟩) 1 1 [(x, y)] (W.alloc (.cells #[.int .i64 x, .int .i64 y] 25)) (rdP_new [(x, y)]) rfl (by decide))
  rw [okPs_one] at CP
  cases hP : okP x y with
  | false =>
    rw [hP] at CP
    rw [if_neg (fun h => absurd h.2 (by decide))]
    clear hV hP
    go_enter Try.func35, Try.ntmps35
    go_wp2_with fail
    refine (CM.out _).mono ?_
    rintro e w1 ⟨rfl, hb1⟩
    have B1 := Lib.hid (bvia B0.out hb1)
    have hb1' : Below (w.heap.size + 3) (boxW w [cV a b c d u v, cP x y, cP 0 0]) w1 := by rw [← S0.out]; exact hb1
    have g1 := F0.out w1 hb1' 1 _ rfl
    have g2 := F0.out w1 hb1' 2 _ rfl
    have z0 : w1.cell? ⟨w.heap.size + 1, 0, none⟩ = some (.int .i64 x) := g1.cell 0
    have z1 : w1.cell? ⟨w.heap.size + 1, 1, none⟩ = some (.int .i64 y) := g1.cell 1
    have y0 : w1.cell? ⟨w.heap.size + 1 + 1, 0, none⟩ = some (.int .i64 0) := g2.cell 0
    have y1 : w1.cell? ⟨w.heap.size + 1 + 1, 1, none⟩ = some (.int .i64 0) := g2.cell 1
    have f0 : w1.frozen? ⟨w.heap.size + 1 + 1, 0, none⟩ = false := g2.free 0
    have f1 : w1.frozen? ⟨w.heap.size + 1 + 1, 1, none⟩ = false := g2.free 1
    have q2 : w.heap.size + 1 + 1 < w1.heap.size := g2.lt
    have G2 : Hid (Has w1 (w.heap.size + 1 + 1) 25 [.int .i64 0, .int .i64 0]) := g2
    have HB1 := Lib.hid hb1'
    clear hb1 hb1' g1 g2
    go_wp2_with fail
    refine (CP.out _).mono ?_
    rintro e w2 ⟨rfl, hb2⟩
    have hb3 : Below w1.heap.size w1 w2 := bvia (by first | exact Below.refl _ _ | go_grown) hb2
    have z1 := HB1.out.size
    rw [S0.out] at z1
    have hb1' := HB1.out.trans (hb3.mono z1)
    have B2 := Lib.hid (bvia B1.out hb3)
    clear y0 y1 f0 f1 q2 G2 z1
    have g1 := F0.out w2 hb1' 1 _ rfl
    have g2 := F0.out w2 hb1' 2 _ rfl
    have z0 : w2.cell? ⟨w.heap.size + 1, 0, none⟩ = some (.int .i64 x) := g1.cell 0
    have z1 : w2.cell? ⟨w.heap.size + 1, 1, none⟩ = some (.int .i64 y) := g1.cell 1
    have y0 : w2.cell? ⟨w.heap.size + 1 + 1, 0, none⟩ = some (.int .i64 0) := g2.cell 0
    have y1 : w2.cell? ⟨w.heap.size + 1 + 1, 1, none⟩ = some (.int .i64 0) := g2.cell 1
    have f0 : w2.frozen? ⟨w.heap.size + 1 + 1, 0, none⟩ = false := g2.free 0
    have f1 : w2.frozen? ⟨w.heap.size + 1 + 1, 1, none⟩ = false := g2.free 1
    have q2 : w.heap.size + 1 + 1 < w2.heap.size := g2.lt
    have G2 : Hid (Has w2 (w.heap.size + 1 + 1) 25 [.int .i64 0, .int .i64 0]) := g2
    clear hb2 hb3 hb1' g1 g2
    go_wp2
    refine post_cell_tmp (g := w.heap.size + 1 + 1) (t := 25) (cs := [.int .i64 0, .int .i64 0]) (v := .int .i64 2) ?_ rfl rfl rfl rfl Try.underlying25 (by kernel_rfl) ⟨rfl, ?_⟩
    · first | exact (G2.out.set 0 _).set 1 _ | (trace_state; sorry)
    · first | exact (B2.out.setCell (p := ⟨w.heap.size + 1 + 1, 0, none⟩) (show w.heap.size ≤ w.heap.size + 1 + 1 by omega) _).setCell (p := ⟨w.heap.size + 1 + 1, 1, none⟩) (show w.heap.size ≤ w.heap.size + 1 + 1 by omega) _ | (trace_state; sorry)
  | true =>
  rw [hP] at CP
  rw [if_pos ⟨rfl, rfl⟩]
  obtain ⟨⟨ha, hb, hc, hd⟩, hu, hv⟩ := (okV_iff a b c d u v).1 hV
  obtain ⟨hx, hy⟩ := (okP_iff x y).1 hP
  have CI : Hid (∀ W, Calls Try.prog 76 #[vV a b c d u v, vP x y] W fun e w' => e = .returned (vP (imX a b u x y) (imX c d v x y)) ∧ Below W.heap.size W w') := fun W => imageC a b c d u v x y 10000 1000000 1000000 W ha hb hc hd hu hv hx hy (by decide) (by decide)
  clear ha hb hc hd hu hv hx hy hV hP
  generalize imX a b u x y = p at *
  generalize imX c d v x y = q at *
  have CQ := Lib.hid (fun (W : World) => pointC (some ⟨W.heap.size, 0, none⟩) 1 1 [(p, q)] (W.alloc (.cells #[.int .i64 p, .int .i64 q] 25)) (rdP_new [(p, q)]) rfl (by decide))
  rw [okPs_one] at CQ
  cases hQ : okP p q with
  | false =>
    rw [hQ] at CQ
    rw [if_neg (fun h => absurd h (by decide))]
    clear hQ
    go_enter Try.func35, Try.ntmps35
    go_wp2_with fail
    refine (CM.out _).mono ?_
    rintro e w1 ⟨rfl, hb1⟩
    have B1 := Lib.hid (bvia B0.out hb1)
    have hb1' : Below (w.heap.size + 3) (boxW w [cV a b c d u v, cP x y, cP 0 0]) w1 := by rw [← S0.out]; exact hb1
    have g1 := F0.out w1 hb1' 1 _ rfl
    have g2 := F0.out w1 hb1' 2 _ rfl
    have z0 : w1.cell? ⟨w.heap.size + 1, 0, none⟩ = some (.int .i64 x) := g1.cell 0
    have z1 : w1.cell? ⟨w.heap.size + 1, 1, none⟩ = some (.int .i64 y) := g1.cell 1
    have y0 : w1.cell? ⟨w.heap.size + 1 + 1, 0, none⟩ = some (.int .i64 0) := g2.cell 0
    have y1 : w1.cell? ⟨w.heap.size + 1 + 1, 1, none⟩ = some (.int .i64 0) := g2.cell 1
    have f0 : w1.frozen? ⟨w.heap.size + 1 + 1, 0, none⟩ = false := g2.free 0
    have f1 : w1.frozen? ⟨w.heap.size + 1 + 1, 1, none⟩ = false := g2.free 1
    have q2 : w.heap.size + 1 + 1 < w1.heap.size := g2.lt
    have G2 : Hid (Has w1 (w.heap.size + 1 + 1) 25 [.int .i64 0, .int .i64 0]) := g2
    have HB1 := Lib.hid hb1'
    clear hb1 hb1' g1 g2
    go_wp2_with fail
    refine (CP.out _).mono ?_
    rintro e w2 ⟨rfl, hb2⟩
    have hb3 : Below w1.heap.size w1 w2 := bvia (by first | exact Below.refl _ _ | go_grown) hb2
    have z9 := HB1.out.size
    rw [S0.out] at z9
    have hb1' := HB1.out.trans (hb3.mono z9)
    have B2 := Lib.hid (bvia B1.out hb3)
    clear y0 y1 f0 f1 q2 G2 z9 z0 z1
    have g1 := F0.out w2 hb1' 1 _ rfl
    have g2 := F0.out w2 hb1' 2 _ rfl
    have z0 : w2.cell? ⟨w.heap.size + 1, 0, none⟩ = some (.int .i64 x) := g1.cell 0
    have z1 : w2.cell? ⟨w.heap.size + 1, 1, none⟩ = some (.int .i64 y) := g1.cell 1
    have y0 : w2.cell? ⟨w.heap.size + 1 + 1, 0, none⟩ = some (.int .i64 0) := g2.cell 0
    have y1 : w2.cell? ⟨w.heap.size + 1 + 1, 1, none⟩ = some (.int .i64 0) := g2.cell 1
    have f0 : w2.frozen? ⟨w.heap.size + 1 + 1, 0, none⟩ = false := g2.free 0
    have f1 : w2.frozen? ⟨w.heap.size + 1 + 1, 1, none⟩ = false := g2.free 1
    have q2 : w.heap.size + 1 + 1 < w2.heap.size := g2.lt
    have G2 : Hid (Has w2 (w.heap.size + 1 + 1) 25 [.int .i64 0, .int .i64 0]) := g2
    have g0 := F0.out w2 hb1' 0 _ rfl
    have v0 : w2.cell? ⟨w.heap.size, 0, none⟩ = some (.int .i64 a) := g0.cell 0
    have v1 : w2.cell? ⟨w.heap.size, 1, none⟩ = some (.int .i64 b) := g0.cell 1
    have v2 : w2.cell? ⟨w.heap.size, 2, none⟩ = some (.int .i64 c) := g0.cell 2
    have v3 : w2.cell? ⟨w.heap.size, 3, none⟩ = some (.int .i64 d) := g0.cell 3
    have v4 : w2.cell? ⟨w.heap.size, 4, none⟩ = some (.int .i64 u) := g0.cell 4
    have v5 : w2.cell? ⟨w.heap.size, 5, none⟩ = some (.int .i64 v) := g0.cell 5
    have HB2 := Lib.hid hb1'
    clear hb2 hb3 hb1' g0 g1 g2 HB1
    go_wp2_with fail
    refine (CI.out _).mono ?_
    rintro e w3 ⟨rfl, hb3⟩
    have z9 := HB2.out.size
    rw [S0.out] at z9
    have HB3 := Lib.hid (HB2.out.trans (hb3.mono z9))
    have B3 := Lib.hid (bvia B2.out hb3)
    have z8 := HB3.out.size
    rw [S0.out] at z8
    have hK : Has (w3.alloc (.cells #[.int .i64 p, .int .i64 q] 25)) w3.heap.size 25 [.int .i64 p, .int .i64 q] := Has.new rfl
    have HK := Lib.hid hK
    have D3 := Lib.hid ((Below.refl w3.heap.size w3).alloc (Nat.le_refl _) (.cells #[.int .i64 p, .int .i64 q] 25))
    clear hK hb3 y0 y1 f0 f1 q2 G2 z9 z0 z1 v0 v1 v2 v3 v4 v5 HB2
    have cq3 := CQ.out (w3.alloc (.cells #[.int .i64 p, .int .i64 q] 25))
    rw [World.size_alloc] at cq3
    have CQ3 := Lib.hid cq3
    clear cq3
    go_wp2_with fail
    refine CQ3.out.mono ?_
    rintro e w4 ⟨rfl, hb4⟩
    have hb5 : Below (w3.alloc (.cells #[.int .i64 p, .int .i64 q] 25)).heap.size (w3.alloc (.cells #[.int .i64 p, .int .i64 q] 25)) w4 := bvia (by first | exact Below.refl _ _ | go_grown) hb4
    have hk4 := HK.out.below hb5 HK.out.lt
    have k0 : w4.cell? ⟨w3.heap.size, 0, none⟩ = some (.int .i64 p) := hk4.cell 0
    have k1 : w4.cell? ⟨w3.heap.size, 1, none⟩ = some (.int .i64 q) := hk4.cell 1
    have hb6 := bvia D3.out hb5
    have hb1' := HB3.out.trans (hb6.mono z8)
    have B4 := Lib.hid (bvia B3.out hb6)
    have g1 := F0.out w4 hb1' 1 _ rfl
    have g2 := F0.out w4 hb1' 2 _ rfl
    have z0 : w4.cell? ⟨w.heap.size + 1, 0, none⟩ = some (.int .i64 x) := g1.cell 0
    have z1 : w4.cell? ⟨w.heap.size + 1, 1, none⟩ = some (.int .i64 y) := g1.cell 1
    have y0 : w4.cell? ⟨w.heap.size + 1 + 1, 0, none⟩ = some (.int .i64 0) := g2.cell 0
    have y1 : w4.cell? ⟨w.heap.size + 1 + 1, 1, none⟩ = some (.int .i64 0) := g2.cell 1
    have f0 : w4.frozen? ⟨w.heap.size + 1 + 1, 0, none⟩ = false := g2.free 0
    have f1 : w4.frozen? ⟨w.heap.size + 1 + 1, 1, none⟩ = false := g2.free 1
    have q2 : w.heap.size + 1 + 1 < w4.heap.size := g2.lt
    have G2 : Hid (Has w4 (w.heap.size + 1 + 1) 25 [.int .i64 0, .int .i64 0]) := g2
    clear hb4 hb5 hb6 hb1' hk4 g1 g2 HB3 D3 HK
    go_wp2
    refine post_cell_tmp (g := w.heap.size + 1 + 1) (t := 25) (cs := [.int .i64 0, .int .i64 0]) (v := .int .i64 7) ?_ rfl rfl rfl rfl Try.underlying25 (by kernel_rfl) ⟨rfl, ?_⟩
    · first | exact (G2.out.set 0 _).set 1 _ | (trace_state; sorry)
    · first | exact (B4.out.setCell (p := ⟨w.heap.size + 1 + 1, 0, none⟩) (show w.heap.size ≤ w.heap.size + 1 + 1 by omega) _).setCell (p := ⟨w.heap.size + 1 + 1, 1, none⟩) (show w.heap.size ≤ w.heap.size + 1 + 1 by omega) _ | (trace_state; sorry)
  | true =>
    rw [hQ] at CQ
    rw [if_pos rfl]
    clear hQ
    go_enter Try.func35, Try.ntmps35
    go_wp2_with fail
    refine (CM.out _).mono ?_
    rintro e w1 ⟨rfl, hb1⟩
    have B1 := Lib.hid (bvia B0.out hb1)
    have hb1' : Below (w.heap.size + 3) (boxW w [cV a b c d u v, cP x y, cP 0 0]) w1 := by rw [← S0.out]; exact hb1
    have g1 := F0.out w1 hb1' 1 _ rfl
    have g2 := F0.out w1 hb1' 2 _ rfl
    have z0 : w1.cell? ⟨w.heap.size + 1, 0, none⟩ = some (.int .i64 x) := g1.cell 0
    have z1 : w1.cell? ⟨w.heap.size + 1, 1, none⟩ = some (.int .i64 y) := g1.cell 1
    have y0 : w1.cell? ⟨w.heap.size + 1 + 1, 0, none⟩ = some (.int .i64 0) := g2.cell 0
    have y1 : w1.cell? ⟨w.heap.size + 1 + 1, 1, none⟩ = some (.int .i64 0) := g2.cell 1
    have f0 : w1.frozen? ⟨w.heap.size + 1 + 1, 0, none⟩ = false := g2.free 0
    have f1 : w1.frozen? ⟨w.heap.size + 1 + 1, 1, none⟩ = false := g2.free 1
    have q2 : w.heap.size + 1 + 1 < w1.heap.size := g2.lt
    have G2 : Hid (Has w1 (w.heap.size + 1 + 1) 25 [.int .i64 0, .int .i64 0]) := g2
    have HB1 := Lib.hid hb1'
    clear hb1 hb1' g1 g2
    go_wp2_with fail
    refine (CP.out _).mono ?_
    rintro e w2 ⟨rfl, hb2⟩
    have hb3 : Below w1.heap.size w1 w2 := bvia (by first | exact Below.refl _ _ | go_grown) hb2
    have z9 := HB1.out.size
    rw [S0.out] at z9
    have hb1' := HB1.out.trans (hb3.mono z9)
    have B2 := Lib.hid (bvia B1.out hb3)
    clear y0 y1 f0 f1 q2 G2 z9 z0 z1
    have g1 := F0.out w2 hb1' 1 _ rfl
    have g2 := F0.out w2 hb1' 2 _ rfl
    have z0 : w2.cell? ⟨w.heap.size + 1, 0, none⟩ = some (.int .i64 x) := g1.cell 0
    have z1 : w2.cell? ⟨w.heap.size + 1, 1, none⟩ = some (.int .i64 y) := g1.cell 1
    have y0 : w2.cell? ⟨w.heap.size + 1 + 1, 0, none⟩ = some (.int .i64 0) := g2.cell 0
    have y1 : w2.cell? ⟨w.heap.size + 1 + 1, 1, none⟩ = some (.int .i64 0) := g2.cell 1
    have f0 : w2.frozen? ⟨w.heap.size + 1 + 1, 0, none⟩ = false := g2.free 0
    have f1 : w2.frozen? ⟨w.heap.size + 1 + 1, 1, none⟩ = false := g2.free 1
    have q2 : w.heap.size + 1 + 1 < w2.heap.size := g2.lt
    have G2 : Hid (Has w2 (w.heap.size + 1 + 1) 25 [.int .i64 0, .int .i64 0]) := g2
    have g0 := F0.out w2 hb1' 0 _ rfl
    have v0 : w2.cell? ⟨w.heap.size, 0, none⟩ = some (.int .i64 a) := g0.cell 0
    have v1 : w2.cell? ⟨w.heap.size, 1, none⟩ = some (.int .i64 b) := g0.cell 1
    have v2 : w2.cell? ⟨w.heap.size, 2, none⟩ = some (.int .i64 c) := g0.cell 2
    have v3 : w2.cell? ⟨w.heap.size, 3, none⟩ = some (.int .i64 d) := g0.cell 3
    have v4 : w2.cell? ⟨w.heap.size, 4, none⟩ = some (.int .i64 u) := g0.cell 4
    have v5 : w2.cell? ⟨w.heap.size, 5, none⟩ = some (.int .i64 v) := g0.cell 5
    have HB2 := Lib.hid hb1'
    clear hb2 hb3 hb1' g0 g1 g2 HB1
    go_wp2_with fail
    refine (CI.out _).mono ?_
    rintro e w3 ⟨rfl, hb3⟩
    have z9 := HB2.out.size
    rw [S0.out] at z9
    have HB3 := Lib.hid (HB2.out.trans (hb3.mono z9))
    have B3 := Lib.hid (bvia B2.out hb3)
    have z8 := HB3.out.size
    rw [S0.out] at z8
    have hK : Has (w3.alloc (.cells #[.int .i64 p, .int .i64 q] 25)) w3.heap.size 25 [.int .i64 p, .int .i64 q] := Has.new rfl
    have HK := Lib.hid hK
    have D3 := Lib.hid ((Below.refl w3.heap.size w3).alloc (Nat.le_refl _) (.cells #[.int .i64 p, .int .i64 q] 25))
    clear hK hb3 y0 y1 f0 f1 q2 G2 z9 z0 z1 v0 v1 v2 v3 v4 v5 HB2
    have cq3 := CQ.out (w3.alloc (.cells #[.int .i64 p, .int .i64 q] 25))
    rw [World.size_alloc] at cq3
    have CQ3 := Lib.hid cq3
    clear cq3
    go_wp2_with fail
    refine CQ3.out.mono ?_
    rintro e w4 ⟨rfl, hb4⟩
    have hb5 : Below (w3.alloc (.cells #[.int .i64 p, .int .i64 q] 25)).heap.size (w3.alloc (.cells #[.int .i64 p, .int .i64 q] 25)) w4 := bvia (by first | exact Below.refl _ _ | go_grown) hb4
    have hk4 := HK.out.below hb5 HK.out.lt
    have k0 : w4.cell? ⟨w3.heap.size, 0, none⟩ = some (.int .i64 p) := hk4.cell 0
    have k1 : w4.cell? ⟨w3.heap.size, 1, none⟩ = some (.int .i64 q) := hk4.cell 1
    have hb6 := bvia D3.out hb5
    have hb1' := HB3.out.trans (hb6.mono z8)
    have B4 := Lib.hid (bvia B3.out hb6)
    have g1 := F0.out w4 hb1' 1 _ rfl
    have g2 := F0.out w4 hb1' 2 _ rfl
    have z0 : w4.cell? ⟨w.heap.size + 1, 0, none⟩ = some (.int .i64 x) := g1.cell 0
    have z1 : w4.cell? ⟨w.heap.size + 1, 1, none⟩ = some (.int .i64 y) := g1.cell 1
    have y0 : w4.cell? ⟨w.heap.size + 1 + 1, 0, none⟩ = some (.int .i64 0) := g2.cell 0
    have y1 : w4.cell? ⟨w.heap.size + 1 + 1, 1, none⟩ = some (.int .i64 0) := g2.cell 1
    have f0 : w4.frozen? ⟨w.heap.size + 1 + 1, 0, none⟩ = false := g2.free 0
    have f1 : w4.frozen? ⟨w.heap.size + 1 + 1, 1, none⟩ = false := g2.free 1
    have q2 : w.heap.size + 1 + 1 < w4.heap.size := g2.lt
    have G2 : Hid (Has w4 (w.heap.size + 1 + 1) 25 [.int .i64 0, .int .i64 0]) := g2
    clear hb4 hb5 hb6 hb1' hk4 g1 g2 HB3 D3 HK
    go_wp2
    refine post_cell_tmp (g := w.heap.size + 1 + 1) (t := 25) (cs := [.int .i64 p, .int .i64 q]) (v := .int .i64 0) ?_ rfl rfl rfl rfl Try.underlying25 (by kernel_rfl) ⟨rfl, ?_⟩
    · first | exact (G2.out.set 0 _).set 1 _ | (trace_state; sorry)
    · first | exact (B4.out.setCell (p := ⟨w.heap.size + 1 + 1, 0, none⟩) (show w.heap.size ≤ w.heap.size + 1 + 1 by omega) _).setCell (p := ⟨w.heap.size + 1 + 1, 1, none⟩) (show w.heap.size ≤ w.heap.size + 1 + 1 by omega) _ | (trace_state; sorry)
set_option maxRecDepth 100000 in
set_option maxHeartbeats 1000000 in
theorem rApplyC (a b c d u v x y : Int) (w : World) : Calls Try.prog 36 #[vV a b c d u v, vP x y] w fun e w' => e = .returned (.tuple #[vP (apR a b c d u v x y).1 (apR a b c d u v x y).2.1, .int .i64 (apR a b c d u v x y).2.2]) ∧ Below w.heap.size w w' := by
  have CM := Lib.hid (fun W => rmoveC a b c d u v W)
  have F0 := Lib.hid (fun (W : World) (hb : Below (w.heap.size + 3) (boxW w [cV a b c d u v, cP x y, cP 0 0]) W) => fun i z h => box_has [cV a b c d u v, cP x y, cP 0 0] hb (i := i) (c := z) h)
  have S0 : Hid ((boxW w [cV a b c d u v, cP x y, cP 0 0]).heap.size = w.heap.size + 3) := boxW_size [cV a b c d u v, cP x y, cP 0 0] w
  have B0 := Lib.hid (boxW_below [cV a b c d u v, cP x y, cP 0 0] w)
  unfold apR
  cases hV : okV a b c d u v with
  | false =>
    rw [hV] at CM
    rw [if_neg (fun h => absurd h.1 (by decide))]
    clear hV
    go_enter Try.func36, Try.ntmps36
    go_wp2_with fail
    refine (CM.out _).mono ?_
    rintro e w1 ⟨rfl, hb1⟩
    have B1 := Lib.hid (bvia B0.out hb1)
    have hb1' : Below (w.heap.size + 3) (boxW w [cV a b c d u v, cP x y, cP 0 0]) w1 := by rw [← S0.out]; exact hb1
    have g1 := F0.out w1 hb1' 1 _ rfl
    have g2 := F0.out w1 hb1' 2 _ rfl
    have z0 : w1.cell? ⟨w.heap.size + 1, 0, none⟩ = some (.int .i64 x) := g1.cell 0
    have z1 : w1.cell? ⟨w.heap.size + 1, 1, none⟩ = some (.int .i64 y) := g1.cell 1
    have y0 : w1.cell? ⟨w.heap.size + 1 + 1, 0, none⟩ = some (.int .i64 0) := g2.cell 0
    have y1 : w1.cell? ⟨w.heap.size + 1 + 1, 1, none⟩ = some (.int .i64 0) := g2.cell 1
    have f0 : w1.frozen? ⟨w.heap.size + 1 + 1, 0, none⟩ = false := g2.free 0
    have f1 : w1.frozen? ⟨w.heap.size + 1 + 1, 1, none⟩ = false := g2.free 1
    have q2 : w.heap.size + 1 + 1 < w1.heap.size := g2.lt
    have G2 : Hid (Has w1 (w.heap.size + 1 + 1) 25 [.int .i64 0, .int .i64 0]) := g2
    clear hb1 hb1' g1 g2
    go_wp2
    refine post_cell_tmp (g := w.heap.size + 1 + 1) (t := 25) (cs := [.int .i64 0, .int .i64 0]) (v := .int .i64 2) ?_ rfl rfl rfl rfl Try.underlying25 (by kernel_rfl) ⟨rfl, ?_⟩
    · first | exact (G2.out.set 0 _).set 1 _ | (trace_state; sorry)
    · first | exact (B1.out.setCell (p := ⟨w.heap.size + 1 + 1, 0, none⟩) (show w.heap.size ≤ w.heap.size + 1 + 1 by omega) _).setCell (p := ⟨w.heap.size + 1 + 1, 1, none⟩) (show w.heap.size ≤ w.heap.size + 1 + 1 by omega) _ | (trace_state; sorry)
  | true =>
  rw [hV] at CM
  have CP := Lib.hid (fun W => refP x y W)
  cases hP : okP x y with
  | false =>
    rw [hP] at CP
    rw [if_neg (fun h => absurd h.2 (by decide))]
    clear hV hP
    go_enter Try.func36, Try.ntmps36
    go_wp2_with fail
    refine (CM.out _).mono ?_
    rintro e w1 ⟨rfl, hb1⟩
    have B1 := Lib.hid (bvia B0.out hb1)
    have hb1' : Below (w.heap.size + 3) (boxW w [cV a b c d u v, cP x y, cP 0 0]) w1 := by rw [← S0.out]; exact hb1
    have g1 := F0.out w1 hb1' 1 _ rfl
    have g2 := F0.out w1 hb1' 2 _ rfl
    have z0 : w1.cell? ⟨w.heap.size + 1, 0, none⟩ = some (.int .i64 x) := g1.cell 0
    have z1 : w1.cell? ⟨w.heap.size + 1, 1, none⟩ = some (.int .i64 y) := g1.cell 1
    have y0 : w1.cell? ⟨w.heap.size + 1 + 1, 0, none⟩ = some (.int .i64 0) := g2.cell 0
    have y1 : w1.cell? ⟨w.heap.size + 1 + 1, 1, none⟩ = some (.int .i64 0) := g2.cell 1
    have f0 : w1.frozen? ⟨w.heap.size + 1 + 1, 0, none⟩ = false := g2.free 0
    have f1 : w1.frozen? ⟨w.heap.size + 1 + 1, 1, none⟩ = false := g2.free 1
    have q2 : w.heap.size + 1 + 1 < w1.heap.size := g2.lt
    have G2 : Hid (Has w1 (w.heap.size + 1 + 1) 25 [.int .i64 0, .int .i64 0]) := g2
    have HB1 := Lib.hid hb1'
    clear hb1 hb1' g1 g2
    go_wp2_with fail
    refine (CP.out _).mono ?_
    rintro e w2 ⟨rfl, hb2⟩
    have hb3 : Below w1.heap.size w1 w2 := bvia (by first | exact Below.refl _ _ | go_grown) hb2
    have z1 := HB1.out.size
    rw [S0.out] at z1
    have hb1' := HB1.out.trans (hb3.mono z1)
    have B2 := Lib.hid (bvia B1.out hb3)
    clear y0 y1 f0 f1 q2 G2 z1
    have g1 := F0.out w2 hb1' 1 _ rfl
    have g2 := F0.out w2 hb1' 2 _ rfl
    have z0 : w2.cell? ⟨w.heap.size + 1, 0, none⟩ = some (.int .i64 x) := g1.cell 0
    have z1 : w2.cell? ⟨w.heap.size + 1, 1, none⟩ = some (.int .i64 y) := g1.cell 1
    have y0 : w2.cell? ⟨w.heap.size + 1 + 1, 0, none⟩ = some (.int .i64 0) := g2.cell 0
    have y1 : w2.cell? ⟨w.heap.size + 1 + 1, 1, none⟩ = some (.int .i64 0) := g2.cell 1
    have f0 : w2.frozen? ⟨w.heap.size + 1 + 1, 0, none⟩ = false := g2.free 0
    have f1 : w2.frozen? ⟨w.heap.size + 1 + 1, 1, none⟩ = false := g2.free 1
    have q2 : w.heap.size + 1 + 1 < w2.heap.size := g2.lt
    have G2 : Hid (Has w2 (w.heap.size + 1 + 1) 25 [.int .i64 0, .int .i64 0]) := g2
    clear hb2 hb3 hb1' g1 g2
    go_wp2
    refine post_cell_tmp (g := w.heap.size + 1 + 1) (t := 25) (cs := [.int .i64 0, .int .i64 0]) (v := .int .i64 2) ?_ rfl rfl rfl rfl Try.underlying25 (by kernel_rfl) ⟨rfl, ?_⟩
    · first | exact (G2.out.set 0 _).set 1 _ | (trace_state; sorry)
    · first | exact (B2.out.setCell (p := ⟨w.heap.size + 1 + 1, 0, none⟩) (show w.heap.size ≤ w.heap.size + 1 + 1 by omega) _).setCell (p := ⟨w.heap.size + 1 + 1, 1, none⟩) (show w.heap.size ≤ w.heap.size + 1 + 1 by omega) _ | (trace_state; sorry)
  | true =>
  rw [hP] at CP
  rw [if_pos ⟨rfl, rfl⟩]
  obtain ⟨⟨ha, hb, hc, hd⟩, hu, hv⟩ := (okV_iff a b c d u v).1 hV
  obtain ⟨hx, hy⟩ := (okP_iff x y).1 hP
  have CI : Hid (∀ W, Calls Try.prog 79 #[vV a b c d u v, vP x y] W fun e w' => e = .returned (vP (imX a b u x y) (imX c d v x y)) ∧ Below W.heap.size W w') := fun W => rappC a b c d u v x y W hV hP
  clear ha hb hc hd hu hv hx hy hV hP
  generalize imX a b u x y = p at *
  generalize imX c d v x y = q at *
  have CQ := Lib.hid (fun W => refP p q W)
  cases hQ : okP p q with
  | false =>
    rw [hQ] at CQ
    rw [if_neg (fun h => absurd h (by decide))]
    clear hQ
    go_enter Try.func36, Try.ntmps36
    go_wp2_with fail
    refine (CM.out _).mono ?_
    rintro e w1 ⟨rfl, hb1⟩
    have B1 := Lib.hid (bvia B0.out hb1)
    have hb1' : Below (w.heap.size + 3) (boxW w [cV a b c d u v, cP x y, cP 0 0]) w1 := by rw [← S0.out]; exact hb1
    have g1 := F0.out w1 hb1' 1 _ rfl
    have g2 := F0.out w1 hb1' 2 _ rfl
    have z0 : w1.cell? ⟨w.heap.size + 1, 0, none⟩ = some (.int .i64 x) := g1.cell 0
    have z1 : w1.cell? ⟨w.heap.size + 1, 1, none⟩ = some (.int .i64 y) := g1.cell 1
    have y0 : w1.cell? ⟨w.heap.size + 1 + 1, 0, none⟩ = some (.int .i64 0) := g2.cell 0
    have y1 : w1.cell? ⟨w.heap.size + 1 + 1, 1, none⟩ = some (.int .i64 0) := g2.cell 1
    have f0 : w1.frozen? ⟨w.heap.size + 1 + 1, 0, none⟩ = false := g2.free 0
    have f1 : w1.frozen? ⟨w.heap.size + 1 + 1, 1, none⟩ = false := g2.free 1
    have q2 : w.heap.size + 1 + 1 < w1.heap.size := g2.lt
    have G2 : Hid (Has w1 (w.heap.size + 1 + 1) 25 [.int .i64 0, .int .i64 0]) := g2
    have HB1 := Lib.hid hb1'
    clear hb1 hb1' g1 g2
    go_wp2_with fail
    refine (CP.out _).mono ?_
    rintro e w2 ⟨rfl, hb2⟩
    have hb3 : Below w1.heap.size w1 w2 := bvia (by first | exact Below.refl _ _ | go_grown) hb2
    have z9 := HB1.out.size
    rw [S0.out] at z9
    have hb1' := HB1.out.trans (hb3.mono z9)
    have B2 := Lib.hid (bvia B1.out hb3)
    clear y0 y1 f0 f1 q2 G2 z9 z0 z1
    have g1 := F0.out w2 hb1' 1 _ rfl
    have g2 := F0.out w2 hb1' 2 _ rfl
    have z0 : w2.cell? ⟨w.heap.size + 1, 0, none⟩ = some (.int .i64 x) := g1.cell 0
    have z1 : w2.cell? ⟨w.heap.size + 1, 1, none⟩ = some (.int .i64 y) := g1.cell 1
    have y0 : w2.cell? ⟨w.heap.size + 1 + 1, 0, none⟩ = some (.int .i64 0) := g2.cell 0
    have y1 : w2.cell? ⟨w.heap.size + 1 + 1, 1, none⟩ = some (.int .i64 0) := g2.cell 1
    have f0 : w2.frozen? ⟨w.heap.size + 1 + 1, 0, none⟩ = false := g2.free 0
    have f1 : w2.frozen? ⟨w.heap.size + 1 + 1, 1, none⟩ = false := g2.free 1
    have q2 : w.heap.size + 1 + 1 < w2.heap.size := g2.lt
    have G2 : Hid (Has w2 (w.heap.size + 1 + 1) 25 [.int .i64 0, .int .i64 0]) := g2
    have g0 := F0.out w2 hb1' 0 _ rfl
    have v0 : w2.cell? ⟨w.heap.size, 0, none⟩ = some (.int .i64 a) := g0.cell 0
    have v1 : w2.cell? ⟨w.heap.size, 1, none⟩ = some (.int .i64 b) := g0.cell 1
    have v2 : w2.cell? ⟨w.heap.size, 2, none⟩ = some (.int .i64 c) := g0.cell 2
    have v3 : w2.cell? ⟨w.heap.size, 3, none⟩ = some (.int .i64 d) := g0.cell 3
    have v4 : w2.cell? ⟨w.heap.size, 4, none⟩ = some (.int .i64 u) := g0.cell 4
    have v5 : w2.cell? ⟨w.heap.size, 5, none⟩ = some (.int .i64 v) := g0.cell 5
    have HB2 := Lib.hid hb1'
    clear hb2 hb3 hb1' g0 g1 g2 HB1
    go_wp2_with fail
    refine (CI.out _).mono ?_
    rintro e w3 ⟨rfl, hb3⟩
    have z9 := HB2.out.size
    rw [S0.out] at z9
    have HB3 := Lib.hid (HB2.out.trans (hb3.mono z9))
    have B3 := Lib.hid (bvia B2.out hb3)
    have z8 := HB3.out.size
    rw [S0.out] at z8
    have hK : Has (w3.alloc (.cells #[.int .i64 p, .int .i64 q] 25)) w3.heap.size 25 [.int .i64 p, .int .i64 q] := Has.new rfl
    have HK := Lib.hid hK
    have D3 := Lib.hid ((Below.refl w3.heap.size w3).alloc (Nat.le_refl _) (.cells #[.int .i64 p, .int .i64 q] 25))
    clear hK hb3 y0 y1 f0 f1 q2 G2 z9 z0 z1 v0 v1 v2 v3 v4 v5 HB2
    go_wp2_with fail
    refine (CQ.out _).mono ?_
    rintro e w4 ⟨rfl, hb4⟩
    have hb5 : Below (w3.alloc (.cells #[.int .i64 p, .int .i64 q] 25)).heap.size (w3.alloc (.cells #[.int .i64 p, .int .i64 q] 25)) w4 := bvia (by first | exact Below.refl _ _ | go_grown) hb4
    have hk4 := HK.out.below hb5 HK.out.lt
    have k0 : w4.cell? ⟨w3.heap.size, 0, none⟩ = some (.int .i64 p) := hk4.cell 0
    have k1 : w4.cell? ⟨w3.heap.size, 1, none⟩ = some (.int .i64 q) := hk4.cell 1
    have hb6 := bvia D3.out hb5
    have hb1' := HB3.out.trans (hb6.mono z8)
    have B4 := Lib.hid (bvia B3.out hb6)
    have g1 := F0.out w4 hb1' 1 _ rfl
    have g2 := F0.out w4 hb1' 2 _ rfl
    have z0 : w4.cell? ⟨w.heap.size + 1, 0, none⟩ = some (.int .i64 x) := g1.cell 0
    have z1 : w4.cell? ⟨w.heap.size + 1, 1, none⟩ = some (.int .i64 y) := g1.cell 1
    have y0 : w4.cell? ⟨w.heap.size + 1 + 1, 0, none⟩ = some (.int .i64 0) := g2.cell 0
    have y1 : w4.cell? ⟨w.heap.size + 1 + 1, 1, none⟩ = some (.int .i64 0) := g2.cell 1
    have f0 : w4.frozen? ⟨w.heap.size + 1 + 1, 0, none⟩ = false := g2.free 0
    have f1 : w4.frozen? ⟨w.heap.size + 1 + 1, 1, none⟩ = false := g2.free 1
    have q2 : w.heap.size + 1 + 1 < w4.heap.size := g2.lt
    have G2 : Hid (Has w4 (w.heap.size + 1 + 1) 25 [.int .i64 0, .int .i64 0]) := g2
    clear hb4 hb5 hb6 hb1' hk4 g1 g2 HB3 D3 HK
    go_wp2
    refine post_cell_tmp (g := w.heap.size + 1 + 1) (t := 25) (cs := [.int .i64 0, .int .i64 0]) (v := .int .i64 7) ?_ rfl rfl rfl rfl Try.underlying25 (by kernel_rfl) ⟨rfl, ?_⟩
    · first | exact (G2.out.set 0 _).set 1 _ | (trace_state; sorry)
    · first | exact (B4.out.setCell (p := ⟨w.heap.size + 1 + 1, 0, none⟩) (show w.heap.size ≤ w.heap.size + 1 + 1 by omega) _).setCell (p := ⟨w.heap.size + 1 + 1, 1, none⟩) (show w.heap.size ≤ w.heap.size + 1 + 1 by omega) _ | (trace_state; sorry)
  | true =>
    rw [hQ] at CQ
    rw [if_pos rfl]
    clear hQ
    go_enter Try.func36, Try.ntmps36
    go_wp2_with fail
    refine (CM.out _).mono ?_
    rintro e w1 ⟨rfl, hb1⟩
    have B1 := Lib.hid (bvia B0.out hb1)
    have hb1' : Below (w.heap.size + 3) (boxW w [cV a b c d u v, cP x y, cP 0 0]) w1 := by rw [← S0.out]; exact hb1
    have g1 := F0.out w1 hb1' 1 _ rfl
    have g2 := F0.out w1 hb1' 2 _ rfl
    have z0 : w1.cell? ⟨w.heap.size + 1, 0, none⟩ = some (.int .i64 x) := g1.cell 0
    have z1 : w1.cell? ⟨w.heap.size + 1, 1, none⟩ = some (.int .i64 y) := g1.cell 1
    have y0 : w1.cell? ⟨w.heap.size + 1 + 1, 0, none⟩ = some (.int .i64 0) := g2.cell 0
    have y1 : w1.cell? ⟨w.heap.size + 1 + 1, 1, none⟩ = some (.int .i64 0) := g2.cell 1
    have f0 : w1.frozen? ⟨w.heap.size + 1 + 1, 0, none⟩ = false := g2.free 0
    have f1 : w1.frozen? ⟨w.heap.size + 1 + 1, 1, none⟩ = false := g2.free 1
    have q2 : w.heap.size + 1 + 1 < w1.heap.size := g2.lt
    have G2 : Hid (Has w1 (w.heap.size + 1 + 1) 25 [.int .i64 0, .int .i64 0]) := g2
    have HB1 := Lib.hid hb1'
    clear hb1 hb1' g1 g2
    go_wp2_with fail
    refine (CP.out _).mono ?_
    rintro e w2 ⟨rfl, hb2⟩
    have hb3 : Below w1.heap.size w1 w2 := bvia (by first | exact Below.refl _ _ | go_grown) hb2
    have z9 := HB1.out.size
    rw [S0.out] at z9
    have hb1' := HB1.out.trans (hb3.mono z9)
    have B2 := Lib.hid (bvia B1.out hb3)
    clear y0 y1 f0 f1 q2 G2 z9 z0 z1
    have g1 := F0.out w2 hb1' 1 _ rfl
    have g2 := F0.out w2 hb1' 2 _ rfl
    have z0 : w2.cell? ⟨w.heap.size + 1, 0, none⟩ = some (.int .i64 x) := g1.cell 0
    have z1 : w2.cell? ⟨w.heap.size + 1, 1, none⟩ = some (.int .i64 y) := g1.cell 1
    have y0 : w2.cell? ⟨w.heap.size + 1 + 1, 0, none⟩ = some (.int .i64 0) := g2.cell 0
    have y1 : w2.cell? ⟨w.heap.size + 1 + 1, 1, none⟩ = some (.int .i64 0) := g2.cell 1
    have f0 : w2.frozen? ⟨w.heap.size + 1 + 1, 0, none⟩ = false := g2.free 0
    have f1 : w2.frozen? ⟨w.heap.size + 1 + 1, 1, none⟩ = false := g2.free 1
    have q2 : w.heap.size + 1 + 1 < w2.heap.size := g2.lt
    have G2 : Hid (Has w2 (w.heap.size + 1 + 1) 25 [.int .i64 0, .int .i64 0]) := g2
    have g0 := F0.out w2 hb1' 0 _ rfl
    have v0 : w2.cell? ⟨w.heap.size, 0, none⟩ = some (.int .i64 a) := g0.cell 0
    have v1 : w2.cell? ⟨w.heap.size, 1, none⟩ = some (.int .i64 b) := g0.cell 1
    have v2 : w2.cell? ⟨w.heap.size, 2, none⟩ = some (.int .i64 c) := g0.cell 2
    have v3 : w2.cell? ⟨w.heap.size, 3, none⟩ = some (.int .i64 d) := g0.cell 3
    have v4 : w2.cell? ⟨w.heap.size, 4, none⟩ = some (.int .i64 u) := g0.cell 4
    have v5 : w2.cell? ⟨w.heap.size, 5, none⟩ = some (.int .i64 v) := g0.cell 5
    have HB2 := Lib.hid hb1'
    clear hb2 hb3 hb1' g0 g1 g2 HB1
    go_wp2_with fail
    refine (CI.out _).mono ?_
    rintro e w3 ⟨rfl, hb3⟩
    have z9 := HB2.out.size
    rw [S0.out] at z9
    have HB3 := Lib.hid (HB2.out.trans (hb3.mono z9))
    have B3 := Lib.hid (bvia B2.out hb3)
    have z8 := HB3.out.size
    rw [S0.out] at z8
    have hK : Has (w3.alloc (.cells #[.int .i64 p, .int .i64 q] 25)) w3.heap.size 25 [.int .i64 p, .int .i64 q] := Has.new rfl
    have HK := Lib.hid hK
    have D3 := Lib.hid ((Below.refl w3.heap.size w3).alloc (Nat.le_refl _) (.cells #[.int .i64 p, .int .i64 q] 25))
    clear hK hb3 y0 y1 f0 f1 q2 G2 z9 z0 z1 v0 v1 v2 v3 v4 v5 HB2
    go_wp2_with fail
    refine (CQ.out _).mono ?_
    rintro e w4 ⟨rfl, hb4⟩
    have hb5 : Below (w3.alloc (.cells #[.int .i64 p, .int .i64 q] 25)).heap.size (w3.alloc (.cells #[.int .i64 p, .int .i64 q] 25)) w4 := bvia (by first | exact Below.refl _ _ | go_grown) hb4
    have hk4 := HK.out.below hb5 HK.out.lt
    have k0 : w4.cell? ⟨w3.heap.size, 0, none⟩ = some (.int .i64 p) := hk4.cell 0
    have k1 : w4.cell? ⟨w3.heap.size, 1, none⟩ = some (.int .i64 q) := hk4.cell 1
    have hb6 := bvia D3.out hb5
    have hb1' := HB3.out.trans (hb6.mono z8)
    have B4 := Lib.hid (bvia B3.out hb6)
    have g1 := F0.out w4 hb1' 1 _ rfl
    have g2 := F0.out w4 hb1' 2 _ rfl
    have z0 : w4.cell? ⟨w.heap.size + 1, 0, none⟩ = some (.int .i64 x) := g1.cell 0
    have z1 : w4.cell? ⟨w.heap.size + 1, 1, none⟩ = some (.int .i64 y) := g1.cell 1
    have y0 : w4.cell? ⟨w.heap.size + 1 + 1, 0, none⟩ = some (.int .i64 0) := g2.cell 0
    have y1 : w4.cell? ⟨w.heap.size + 1 + 1, 1, none⟩ = some (.int .i64 0) := g2.cell 1
    have f0 : w4.frozen? ⟨w.heap.size + 1 + 1, 0, none⟩ = false := g2.free 0
    have f1 : w4.frozen? ⟨w.heap.size + 1 + 1, 1, none⟩ = false := g2.free 1
    have q2 : w.heap.size + 1 + 1 < w4.heap.size := g2.lt
    have G2 : Hid (Has w4 (w.heap.size + 1 + 1) 25 [.int .i64 0, .int .i64 0]) := g2
    clear hb4 hb5 hb6 hb1' hk4 g1 g2 HB3 D3 HK
    go_wp2
    refine post_cell_tmp (g := w.heap.size + 1 + 1) (t := 25) (cs := [.int .i64 p, .int .i64 q]) (v := .int .i64 0) ?_ rfl rfl rfl rfl Try.underlying25 (by kernel_rfl) ⟨rfl, ?_⟩
    · first | exact (G2.out.set 0 _).set 1 _ | (trace_state; sorry)
    · first | exact (B4.out.setCell (p := ⟨w.heap.size + 1 + 1, 0, none⟩) (show w.heap.size ≤ w.heap.size + 1 + 1 by omega) _).setCell (p := ⟨w.heap.size + 1 + 1, 1, none⟩) (show w.heap.size ≤ w.heap.size + 1 + 1 by omega) _ | (trace_state; sorry)
end Go.Proofs.Ytmghpaibdgkbfaa
/-
  Contract of chapter 6: Order, the program's.
-/
namespace Go.Proofs.Ytmghpaibdgkbfaa
open Go.RowKit
def sameM (a b c d p q r s : Int) : Bool := a == p && (b == q && (c == r && d == s))
set_option maxRecDepth 100000 in
theorem eqM (a b c d p q r s : Int) (w : World) : (Op.equalIn 10000 40 (vM a b c d) (vM p q r s)).run Try.prog w = .ok (sameM a b c d p q r s) w := by
  have u3 := Try.underlying2
  have a3 := Try.isAgg2
  have z3 := Try.sizeOf2
  have hS : Try.prog.underlying 40 = some (.struct (Try.prog.fieldsOf 40)) := by kernel_rfl
  have hp : Try.prog.stoodInHeld 40 = false := by kernel_rfl
  rw [show (10000 : Nat) = 9999 + 1 from rfl, run_equalIn_agg w 9999 40 _ _ hS hp]
  simp only [Program.fieldsOf, Try.underlying40]
  unfold sameM
  by_cases h1 : a = p
  · subst h1
    by_cases h2 : b = q
    · subst h2
      by_cases h3 : c = r
      · subst h3
        by_cases h4 : d = s
        · subst h4
          go_simp
        · have : (d == s) = false := beq_eq_false_iff_ne.2 h4
          go_simp
      · have : (c == r) = false := beq_eq_false_iff_ne.2 h3
        go_simp
    · have : (b == q) = false := beq_eq_false_iff_ne.2 h2
      go_simp
  · have : (a == p) = false := beq_eq_false_iff_ne.2 h1
    go_simp
def ordV (D T : Int) (e1 e2 : Bool) : Int := if e1 = true then 1 else if e2 = true then 2 else if D = 1 ∧ T = -1 then 3 else if D = 1 ∧ T = 0 then 4 else if D = 1 ∧ T = 1 then 6 else 0
def ordR (a b c d : Int) : Int × Int := if okM a b c d = true then (ordV (a * d - b * c) (a + d) (sameM a b c d 1 0 0 1) (sameM (a * a + b * c) (a * b + b * d) (c * a + d * c) (c * b + d * d) 1 0 0 1), 0) else (0, 2)
set_option maxRecDepth 100000 in
set_option maxHeartbeats 2000000 in
theorem orderC (a b c d : Int) (w : World) : Calls Try.prog 41 #[vM a b c d] w fun e w' => e = .returned (.tuple #[.int .i64 (ordR a b c d).1, .int .i64 (ordR a b c d).2]) ∧ Below w.heap.size w w' := by
  have CM := Lib.hid (fun W => matrixC a b c d W)
  have F0 := Lib.hid (fun (W : World) (hb : Below (w.heap.size + 1) (boxW w [cM a b c d]) W) => fun i x h => box_has [cM a b c d] hb (i := i) (c := x) h)
  have S0 : Hid ((boxW w [cM a b c d]).heap.size = w.heap.size + 1) := boxW_size [cM a b c d] w
  have B0 := Lib.hid (boxW_below [cM a b c d] w)
  unfold ordR
  cases hm : okM a b c d with
  | false =>
    rw [hm] at CM
    rw [if_neg (by decide)]
    clear hm
    go_enter Try.func41, Try.ntmps41
    go_wp2_with fail
    refine (CM.out _).mono ?_
    rintro e w1 ⟨rfl, hb1⟩
    go_wp2
    go_ret2
    exact ⟨rfl, bvia B0.out hb1⟩
  | true =>
    rw [hm] at CM
    rw [if_pos rfl]
    obtain ⟨ha, hb, hc, hd⟩ := (okM_iff a b c d).1 hm
    have CD := Lib.hid (fun W => mdetC a b c d 10000 W ha hb hc hd (by decide))
    have CT := Lib.hid (fun W => timesC a b c d a b c d 10000 10000 W ha hb hc hd ha hb hc hd (by decide))
    have iT : IntKind.i64.wrap (a + d) = a + d := IntWalk.i64_in _ (by omega)
    have hq1 := fun W => eqM a b c d 1 0 0 1 W
    have hq2 := fun W => eqM (a * a + b * c) (a * b + b * d) (c * a + d * c) (c * b + d * d) 1 0 0 1 W
    generalize sameM a b c d 1 0 0 1 = e1 at *
    generalize sameM (a * a + b * c) (a * b + b * d) (c * a + d * c) (c * b + d * d) 1 0 0 1 = e2 at *
    generalize a * d - b * c = D at *
    generalize hT : a + d = T at *
    clear hm ha hb hc hd
    go_enter Try.func41, Try.ntmps41
    go_wp2_with fail
    refine (CM.out _).mono ?_
    rintro e w1 ⟨rfl, hb1⟩
    have B1 := Lib.hid (bvia B0.out hb1)
    have hb1' : Below (w.heap.size + 1) (boxW w [cM a b c d]) w1 := by rw [← S0.out]; exact hb1
    have z1 := hb1'.size
    rw [S0.out] at z1
    have D1 := Lib.hid ((Below.refl w1.heap.size w1).alloc (Nat.le_refl _) (.cells #[.int .i64 1, .int .i64 0, .int .i64 0, .int .i64 1] 40))
    have g0 := F0.out _ (hb1'.trans (D1.out.mono z1)) 0 _ rfl
    have g1 : Has (w1.alloc (.cells #[.int .i64 1, .int .i64 0, .int .i64 0, .int .i64 1] 40)) w1.heap.size 40 [.int .i64 1, .int .i64 0, .int .i64 0, .int .i64 1] := Has.new rfl
    have G0 := Lib.hid g0
    have G1 := Lib.hid g1
    have B2 := Lib.hid (bvia B1.out D1.out)
    clear hb1 hb1' g0 g1 F0 S0 B0
    go_wp2
    clear D1 B1 CM z1
    generalize (w1.alloc (.cells #[.int .i64 1, .int .i64 0, .int .i64 0, .int .i64 1] 40)) = W2 at *
    generalize w1.heap.size = K at *
    have x0 : W2.cell? ⟨w.heap.size, 0, none⟩ = some (.int .i64 a) := G0.out.cell 0
    have x1 : W2.cell? ⟨w.heap.size, 1, none⟩ = some (.int .i64 b) := G0.out.cell 1
    have x2 : W2.cell? ⟨w.heap.size, 2, none⟩ = some (.int .i64 c) := G0.out.cell 2
    have x3 : W2.cell? ⟨w.heap.size, 3, none⟩ = some (.int .i64 d) := G0.out.cell 3
    have y0 : W2.cell? ⟨K, 0, none⟩ = some (.int .i64 1) := G1.out.cell 0
    have y1 : W2.cell? ⟨K, 1, none⟩ = some (.int .i64 0) := G1.out.cell 1
    have y2 : W2.cell? ⟨K, 2, none⟩ = some (.int .i64 0) := G1.out.cell 2
    have y3 : W2.cell? ⟨K, 3, none⟩ = some (.int .i64 1) := G1.out.cell 3
    have q0 : w.heap.size < W2.heap.size := G0.out.lt
    have q1 : K < W2.heap.size := G1.out.lt
    have hxc := fun (x : Ext W2) => x.cell
    refine wp_region_ext (by kernel_rfl) (by kernel_rfl) ?_
    repeat (go_big_quiet_step ((go_at_call 81; exact ext_call (CD.out _))))
    refine wpQuiet_nil ?_
    intro w3 hw'
    have hb3 := ext_below hw'
    clear hw' hxc x0 x1 x2 x3 y0 y1 y2 y3 q0 q1
    have G3 := Lib.hid (G0.out.below hb3 G0.out.lt)
    have G4 := Lib.hid (G1.out.below hb3 G1.out.lt)
    have B3 := Lib.hid (bvia B2.out hb3)
    clear hb3 G0 G1 B2 CD
    have x0 : w3.cell? ⟨w.heap.size, 0, none⟩ = some (.int .i64 a) := G3.out.cell 0
    have x1 : w3.cell? ⟨w.heap.size, 1, none⟩ = some (.int .i64 b) := G3.out.cell 1
    have x2 : w3.cell? ⟨w.heap.size, 2, none⟩ = some (.int .i64 c) := G3.out.cell 2
    have x3 : w3.cell? ⟨w.heap.size, 3, none⟩ = some (.int .i64 d) := G3.out.cell 3
    have y0 : w3.cell? ⟨K, 0, none⟩ = some (.int .i64 1) := G4.out.cell 0
    have y1 : w3.cell? ⟨K, 1, none⟩ = some (.int .i64 0) := G4.out.cell 1
    have y2 : w3.cell? ⟨K, 2, none⟩ = some (.int .i64 0) := G4.out.cell 2
    have y3 : w3.cell? ⟨K, 3, none⟩ = some (.int .i64 1) := G4.out.cell 3
    have q0 : w.heap.size < w3.heap.size := G3.out.lt
    have q1 : K < w3.heap.size := G4.out.lt
    try rw [hT]
    cases e1 with
    | true =>
      go_wp2
      go_ret2
      exact ⟨rfl, B3.out⟩
    | false =>
    go_wp2
    have hxc := fun (x : Ext w3) => x.cell
    refine wp_region_ext (by kernel_rfl) (by kernel_rfl) ?_
    repeat (go_big_quiet_step ((go_at_call 65; exact ext_call (CT.out _))))
    refine wpQuiet_nil ?_
    intro w4 hw'
    have hb4 := ext_below hw'
    clear hw' hxc x0 x1 x2 x3 y0 y1 y2 y3 q0 q1
    have B4 := Lib.hid (bvia B3.out hb4)
    clear hb4 G3 G4 B3 CT
    cases e2 with
    | true =>
      go_wp2
      go_ret2
      exact ⟨rfl, B4.out⟩
    | false =>
    by_cases d1 : D = 1
    case neg =>
      have jd : (D == 1) = false := beq_eq_false_iff_ne.2 d1
      have HO : Hid (ordV D T false false = 0) := by
        show ordV D T false false = 0
        unfold ordV
        simp [d1]
      clear d1
      go_wp2
      go_ret2
      exact ⟨by rw [HO.out]; rfl, B4.out⟩
    subst d1
    by_cases t1 : T = -1
    · have HO : Hid (ordV 1 T false false = 3) := by
        show ordV 1 T false false = 3
        unfold ordV
        simp [t1]
      have jt : (T == -1) = true := by rw [t1]; rfl
      clear t1
      go_wp2
      go_ret2
      exact ⟨by rw [HO.out]; rfl, B4.out⟩
    have jt1 : (T == -1) = false := beq_eq_false_iff_ne.2 t1
    by_cases t2 : T = 0
    · have HO : Hid (ordV 1 T false false = 4) := by
        show ordV 1 T false false = 4
        unfold ordV
        simp [t2]
      have jt : (T == 0) = true := by rw [t2]; rfl
      clear t1 t2
      go_wp2
      go_ret2
      exact ⟨by rw [HO.out]; rfl, B4.out⟩
    have jt2 : (T == 0) = false := beq_eq_false_iff_ne.2 t2
    by_cases t3 : T = 1
    · have HO : Hid (ordV 1 T false false = 6) := by
        show ordV 1 T false false = 6
        unfold ordV
        simp [t3]
      have jt : (T == 1) = true := by rw [t3]; rfl
      clear t1 t2 t3
      go_wp2
      go_ret2
      exact ⟨by rw [HO.out]; rfl, B4.out⟩
    have jt3 : (T == 1) = false := beq_eq_false_iff_ne.2 t3
    have HO : Hid (ordV 1 T false false = 0) := by
      show ordV 1 T false false = 0
      unfold ordV
      simp [t1, t2, t3]
    clear t1 t2 t3
    go_wp2
    go_ret2
    exact ⟨by rw [HO.out]; rfl, B4.out⟩
end Go.Proofs.Ytmghpaibdgkbfaa
/-
  The law's examples in chapter 6: awake.
-/
namespace Go.Proofs.Ytmghpaibdgkbfaa
open Go.RowKit
set_option maxRecDepth 100000 in
theorem ptC (x y : Int) (w : World) : Calls Try.prog 29 #[.int .i64 x, .int .i64 y] w fun e w' => e = .returned (vP x y) ∧ Below w.heap.size w w' := by
  have G : Hid (Has (w.alloc (.cells #[.int .i64 x, .int .i64 y] 25)) w.heap.size 25 [.int .i64 x, .int .i64 y]) := Has.new rfl
  have B : Hid (Below w.heap.size w (w.alloc (.cells #[.int .i64 x, .int .i64 y] 25))) := (Below.refl _ _).alloc (Nat.le_refl _) _
  go_enter Try.func29, Try.ntmps29
  go_wp2
  exact post_cell G.out Try.results29 rfl rfl Try.underlying25 (by kernel_rfl) ⟨rfl, B.out⟩
set_option maxRecDepth 100000 in
theorem matC (a b c d : Int) (w : World) : Calls Try.prog 28 #[.int .i64 a, .int .i64 b, .int .i64 c, .int .i64 d] w fun e w' => e = .returned (vM a b c d) ∧ Below w.heap.size w w' := by
  have G : Hid (Has (w.alloc (.cells #[.int .i64 a, .int .i64 b, .int .i64 c, .int .i64 d] 40)) w.heap.size 40 [.int .i64 a, .int .i64 b, .int .i64 c, .int .i64 d]) := Has.new rfl
  have B : Hid (Below w.heap.size w (w.alloc (.cells #[.int .i64 a, .int .i64 b, .int .i64 c, .int .i64 d] 40))) := (Below.refl _ _).alloc (Nat.le_refl _) _
  go_enter Try.func28, Try.ntmps28
  go_wp2
  exact post_cell G.out Try.results28 rfl rfl Try.underlying40 (by kernel_rfl) ⟨rfl, B.out⟩
set_option maxRecDepth 100000 in
set_option maxHeartbeats 4000000 in
theorem awakeC (w : World) : Calls Try.prog 19 #[] w fun e w' => e = .returned (.bool true) ∧ Below w.heap.size w w' := by
  have CS : Hid (∀ W : World, Calls Try.prog 13 #[vL 2 1 2, vP 0 0, vP 1 1] W fun e w' => e = .returned (.tuple #[.int .i64 6, .int .i64 0]) ∧ Below W.heap.size W w') := fun W => by have := squareC 2 1 2 0 0 1 1 W; rw [show dotR 2 1 2 0 0 1 1 1 1 = (6, 0) by decide] at this; exact this
  have CD : Hid (∀ W : World, Calls Try.prog 20 #[vP 0 0, vP 1 0, vP 0 1] W fun e w' => e = .returned (.tuple #[.int .i64 1, .int .i64 0]) ∧ Below W.heap.size W w') := fun W => by have := sideC 0 0 1 0 0 1 W; rw [show sideR 0 0 1 0 0 1 = (1, 0) by decide] at this; exact this
  have CT : Hid (∀ W : World, Calls Try.prog 22 #[vP 0 0, vP 1 0, vP 1 (-1), vP 0 1] W fun e w' => e = .returned (.tuple #[.int .i64 1, .int .i64 0]) ∧ Below W.heap.size W w') := fun W => by have := turnC 0 0 1 0 1 (-1) 0 1 W; rw [show turnR 0 0 1 0 1 (-1) 0 1 = (1, 0) by decide] at this; exact this
  have CA : Hid (∀ W : World, Calls Try.prog 35 #[vV 0 (-1) 1 0 3 4, vP 1 2] W fun e w' => e = .returned (.tuple #[vP 1 5, .int .i64 0]) ∧ Below W.heap.size W w') := fun W => by have := applyC 0 (-1) 1 0 3 4 1 2 W; rw [show apR 0 (-1) 1 0 3 4 1 2 = (1, 5, 0) by decide] at this; exact this
  have CO : Hid (∀ W : World, Calls Try.prog 41 #[vM 1 (-1) 1 0] W fun e w' => e = .returned (.tuple #[.int .i64 6, .int .i64 0]) ∧ Below W.heap.size W w') := fun W => by have := orderC 1 (-1) 1 0 W; rw [show ordR 1 (-1) 1 0 = (6, 0) by decide] at this; exact this
  have CG := Lib.hid (fun W => groupTC 2 1 2 W (by decide))
  have CR := Lib.hid (fun W => reduceTC 5 7 10 W (by decide))
  have G0 : Hid (Has (w.alloc (.cells #[.int .i64 2, .int .i64 1, .int .i64 2] 23)) w.heap.size 23 [.int .i64 2, .int .i64 1, .int .i64 2]) := Has.new rfl
  have B : Hid (Below w.heap.size w (w.alloc (.cells #[.int .i64 2, .int .i64 1, .int .i64 2] 23))) := (Below.refl _ _).alloc (Nat.le_refl _) _
  go_enter Try.func19, Try.ntmps19
  go_upto_region 2 with (fail)
  generalize w.alloc (.cells #[.int .i64 2, .int .i64 1, .int .i64 2] 23) = W1 at *
  have c0 : W1.cell? ⟨w.heap.size, 0, none⟩ = some (.int .i64 2) := G0.out.cell 0
  have c1 : W1.cell? ⟨w.heap.size, 1, none⟩ = some (.int .i64 1) := G0.out.cell 1
  have c2 : W1.cell? ⟨w.heap.size, 2, none⟩ = some (.int .i64 2) := G0.out.cell 2
  have q0 := G0.out.lt
  have hxc := fun (x : Ext W1) => x.cell
  refine wp_region_ext (by kernel_rfl) (by kernel_rfl) ?_
  repeat (go_big_quiet_step ((first | (go_at_call 29; exact ext_call (ptC _ _ _)) | (go_at_call 13; exact ext_call (CS.out _)))))
  refine wpQuiet_nil ?_
  intro w2 hw'
  have hb2 := ext_below hw'
  clear hw' hxc c0 c1 c2 q0
  replace G0 := Lib.hid (G0.out.below hb2 G0.out.lt)
  replace B := Lib.hid (bvia B.out hb2)
  clear hb2 CS
  go_wp2_with fail
  refine (ptC _ _ _).mono ?_
  rintro e w3 ⟨rfl, hb3⟩
  replace G0 := Lib.hid (G0.out.below hb3 G0.out.lt)
  replace B := Lib.hid (bvia B.out hb3)
  clear hb3 
  go_wp2_with fail
  refine (ptC _ _ _).mono ?_
  rintro e w4 ⟨rfl, hb4⟩
  replace G0 := Lib.hid (G0.out.below hb4 G0.out.lt)
  replace B := Lib.hid (bvia B.out hb4)
  clear hb4 
  go_wp2_with fail
  refine (ptC _ _ _).mono ?_
  rintro e w5 ⟨rfl, hb5⟩
  replace G0 := Lib.hid (G0.out.below hb5 G0.out.lt)
  replace B := Lib.hid (bvia B.out hb5)
  clear hb5 
  go_wp2_with fail
  refine (CD.out _).mono ?_
  rintro e w6 ⟨rfl, hb6⟩
  replace G0 := Lib.hid (G0.out.below hb6 G0.out.lt)
  replace B := Lib.hid (bvia B.out hb6)
  clear hb6 CD
  go_wp2_with fail
  refine (ptC _ _ _).mono ?_
  rintro e w7 ⟨rfl, hb7⟩
  replace G0 := Lib.hid (G0.out.below hb7 G0.out.lt)
  replace B := Lib.hid (bvia B.out hb7)
  clear hb7 
  go_wp2_with fail
  refine (ptC _ _ _).mono ?_
  rintro e w8 ⟨rfl, hb8⟩
  replace G0 := Lib.hid (G0.out.below hb8 G0.out.lt)
  replace B := Lib.hid (bvia B.out hb8)
  clear hb8 
  go_wp2_with fail
  refine (ptC _ _ _).mono ?_
  rintro e w9 ⟨rfl, hb9⟩
  replace G0 := Lib.hid (G0.out.below hb9 G0.out.lt)
  replace B := Lib.hid (bvia B.out hb9)
  clear hb9 
  go_wp2_with fail
  refine (ptC _ _ _).mono ?_
  rintro e w10 ⟨rfl, hb10⟩
  replace G0 := Lib.hid (G0.out.below hb10 G0.out.lt)
  replace B := Lib.hid (bvia B.out hb10)
  clear hb10 
  go_wp2_with fail
  refine (CT.out _).mono ?_
  rintro e w11 ⟨rfl, hb11⟩
  replace G0 := Lib.hid (G0.out.below hb11 G0.out.lt)
  replace B := Lib.hid (bvia B.out hb11)
  clear hb11 CT
  have c0 : w11.cell? ⟨w.heap.size, 0, none⟩ = some (.int .i64 2) := G0.out.cell 0
  have c1 : w11.cell? ⟨w.heap.size, 1, none⟩ = some (.int .i64 1) := G0.out.cell 1
  have c2 : w11.cell? ⟨w.heap.size, 2, none⟩ = some (.int .i64 2) := G0.out.cell 2
  go_wp2_with fail
  refine (CG.out _).mono ?_
  rintro e w12 ⟨GQ, hb12⟩
  replace G0 := Lib.hid (G0.out.below hb12 G0.out.lt)
  replace B := Lib.hid (bvia B.out hb12)
  clear hb12 
  obtain ⟨l, m, A, cp, ms, ST, RD, HP, _, he, _⟩ := GQ
  have hlen : ms.length = 12 := by rw [HP.length_eq, List.length_map, hex_len ST RD]
  rw [hlen] at he
  subst he
  clear ST RD HP hlen G0 c0 c1 c2 CG
  go_wp2_with fail
  refine (matC _ _ _ _ _).mono ?_
  rintro e w13 ⟨rfl, hb13⟩
  replace B := Lib.hid (bvia B.out hb13)
  clear hb13 
  go_wp2_with fail
  refine (ptC _ _ _).mono ?_
  rintro e w14 ⟨rfl, hb14⟩
  replace B := Lib.hid (bvia B.out hb14)
  clear hb14 
  go_wp2_with fail
  refine (ptC _ _ _).mono ?_
  rintro e w15 ⟨rfl, hb15⟩
  replace B := Lib.hid (bvia B.out hb15)
  clear hb15 
  go_wp2_with fail
  refine (CA.out _).mono ?_
  rintro e w16 ⟨rfl, hb16⟩
  replace B := Lib.hid (bvia B.out hb16)
  clear hb16 CA
  have G1 : Hid (Has (w16.alloc (.cells #[.int .i64 1, .int .i64 5] 25)) w16.heap.size 25 [.int .i64 1, .int .i64 5]) := Has.new rfl
  replace B := Lib.hid (bvia B.out ((Below.refl _ w16).alloc (Nat.le_refl _) (.cells #[.int .i64 1, .int .i64 5] 25)))
  go_upto_region 7 with (fail)
  generalize w16.alloc (.cells #[.int .i64 1, .int .i64 5] 25) = V1 at *
  generalize w16.heap.size = K1 at *
  go_wp2_with fail
  refine (matC _ _ _ _ _).mono ?_
  rintro e w17 ⟨rfl, hb17⟩
  replace G1 := Lib.hid (G1.out.below hb17 G1.out.lt)
  replace B := Lib.hid (bvia B.out hb17)
  clear hb17 
  go_wp2_with fail
  refine (CO.out _).mono ?_
  rintro e w18 ⟨rfl, hb18⟩
  replace G1 := Lib.hid (G1.out.below hb18 G1.out.lt)
  replace B := Lib.hid (bvia B.out hb18)
  clear hb18 CO
  go_wp2_with fail
  refine (CR.out _).mono ?_
  rintro e w19 ⟨⟨l, m, ST, RD, he⟩, hb19⟩
  replace G1 := Lib.hid (G1.out.below hb19 G1.out.lt)
  replace B := Lib.hid (bvia B.out hb19)
  clear hb19 
  obtain ⟨rfl, hm⟩ := red_ex ST RD
  rw [hm] at he
  subst he
  clear ST RD hm CR
  have D1 := Lib.hid ((Below.refl w19.heap.size w19).alloc (Nat.le_refl _) (.cells #[.int .i64 1, .int .i64 0, .int .i64 1] 23))
  have D2 := Lib.hid (D1.out.alloc (by simp) (.cells #[.int .i64 (-3), .int .i64 (-1), .int .i64 2, .int .i64 1] 40))
  replace G1 := Lib.hid (G1.out.below D2.out G1.out.lt)
  have G2 : Hid (Has ((w19.alloc (.cells #[.int .i64 1, .int .i64 0, .int .i64 1] 23)).alloc (.cells #[.int .i64 (-3), .int .i64 (-1), .int .i64 2, .int .i64 1] 40)) w19.heap.size 23 [.int .i64 1, .int .i64 0, .int .i64 1]) := Has.alloc (Has.new rfl) _
  have G3 : Hid (Has ((w19.alloc (.cells #[.int .i64 1, .int .i64 0, .int .i64 1] 23)).alloc (.cells #[.int .i64 (-3), .int .i64 (-1), .int .i64 2, .int .i64 1] 40)) (w19.heap.size + 1) 40 [.int .i64 (-3), .int .i64 (-1), .int .i64 2, .int .i64 1]) := Has.new2 rfl
  replace B := Lib.hid (bvia B.out D2.out)
  clear D1 D2
  go_upto_region 9 with (fail)
  generalize ((w19.alloc (.cells #[.int .i64 1, .int .i64 0, .int .i64 1] 23)).alloc (.cells #[.int .i64 (-3), .int .i64 (-1), .int .i64 2, .int .i64 1] 40)) = V2 at *
  generalize w19.heap.size = K2 at *
  go_upto_region 11 with (fail)
  have g10 : V2.cell? ⟨K1, 0, none⟩ = some (.int .i64 1) := G1.out.cell 0
  have g11 : V2.cell? ⟨K1, 1, none⟩ = some (.int .i64 5) := G1.out.cell 1
  have qG1 := G1.out.lt
  have g20 : V2.cell? ⟨K2, 0, none⟩ = some (.int .i64 1) := G2.out.cell 0
  have g21 : V2.cell? ⟨K2, 1, none⟩ = some (.int .i64 0) := G2.out.cell 1
  have g22 : V2.cell? ⟨K2, 2, none⟩ = some (.int .i64 1) := G2.out.cell 2
  have qG2 := G2.out.lt
  have g30 : V2.cell? ⟨K2 + 1, 0, none⟩ = some (.int .i64 (-3)) := G3.out.cell 0
  have g31 : V2.cell? ⟨K2 + 1, 1, none⟩ = some (.int .i64 (-1)) := G3.out.cell 1
  have g32 : V2.cell? ⟨K2 + 1, 2, none⟩ = some (.int .i64 2) := G3.out.cell 2
  have g33 : V2.cell? ⟨K2 + 1, 3, none⟩ = some (.int .i64 1) := G3.out.cell 3
  have qG3 := G3.out.lt
  have hq1 : ∀ W, (Op.equalIn 10000 25 (vP 1 5) (vP 1 5)).run Try.prog W = .ok true W := fun W => eqPt 1 5 1 5 W
  have hq2 : ∀ W, (Op.equalIn 10000 23 (vL 1 0 1) (vL 1 0 1)).run Try.prog W = .ok true W := fun W => eqLat 1 0 1 1 0 1 W
  have hq3 : ∀ W, (Op.equalIn 10000 40 (vM (-3) (-1) 2 1) (vM (-3) (-1) 2 1)).run Try.prog W = .ok true W := fun W => eqM (-3) (-1) 2 1 (-3) (-1) 2 1 W
  have hxc := fun (x : Ext V2) => x.cell
  refine wp_region_ext (by kernel_rfl) (by kernel_rfl) ?_
  repeat (go_big_quiet_step ((first | (go_at_call 29; exact ext_call (ptC _ _ _)) | (go_at_call 28; exact ext_call (matC _ _ _ _ _)))))
  refine wpQuiet_nil ?_
  intro w9 hw'
  have hb9 := ext_below hw'
  clear hw' hxc
  go_wp2
  go_ret
  exact ⟨rfl, bvia B.out hb9⟩
end Go.Proofs.Ytmghpaibdgkbfaa
