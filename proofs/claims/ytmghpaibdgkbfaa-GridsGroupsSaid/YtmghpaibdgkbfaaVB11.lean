/-
  Contract of chapter 6: Invert, the program's.
-/
import Derived.Test.YtmghpaibdgkbfaaVB10
namespace Go.Proofs.Ytmghpaibdgkbfaa
open Go.RowKit
theorem unit_bnd {D M x : Int} (h : D = 1 ∨ D = -1) (hx : In6 M x) : In6 M (D * x) ∧ In6 M (-D * x) := by
  rcases h with rfl | rfl
  · exact ⟨⟨by omega, by omega⟩, ⟨by omega, by omega⟩⟩
  · exact ⟨⟨by omega, by omega⟩, ⟨by omega, by omega⟩⟩
/-- the inverse's numbers and its step -/
def invQ (a b c d u v : Int) : Int × Int × Int × Int × Int × Int :=
  ((a * d - b * c) * d, -(a * d - b * c) * b, -(a * d - b * c) * c, (a * d - b * c) * a,
   -((a * d - b * c) * d * u + -(a * d - b * c) * b * v + 0), -(-(a * d - b * c) * c * u + (a * d - b * c) * a * v + 0))
def okV6 (q : Int × Int × Int × Int × Int × Int) : Bool := okV q.1 q.2.1 q.2.2.1 q.2.2.2.1 q.2.2.2.2.1 q.2.2.2.2.2
def vV6 (q : Int × Int × Int × Int × Int × Int) : Value := vV q.1 q.2.1 q.2.2.1 q.2.2.2.1 q.2.2.2.2.1 q.2.2.2.2.2
def invR (a b c d u v : Int) : Value × Int :=
  if okV a b c d u v = true then (if a * d - b * c = 1 ∨ a * d - b * c = -1 then (if okV6 (invQ a b c d u v) = true then (vV6 (invQ a b c d u v), 0) else (vV 0 0 0 0 0 0, 7)) else (vV 0 0 0 0 0 0, 6)) else (vV 0 0 0 0 0 0, 2)
set_option maxRecDepth 100000 in
set_option maxHeartbeats 1500000 in
theorem invertC (a b c d u v : Int) (w : World) : Calls Try.prog 39 #[vV a b c d u v] w fun e w' => e = .returned (.tuple #[(invR a b c d u v).1, .int .i64 (invR a b c d u v).2]) ∧ Below w.heap.size w w' := by
  have CM := Lib.hid (fun W => moveC a b c d u v W)
  have F0 := Lib.hid (fun (W : World) (hb : Below (w.heap.size + 2) (boxW w [cV a b c d u v, cV 0 0 0 0 0 0]) W) => fun i z h => box_has [cV a b c d u v, cV 0 0 0 0 0 0] hb (i := i) (c := z) h)
  have S0 : Hid ((boxW w [cV a b c d u v, cV 0 0 0 0 0 0]).heap.size = w.heap.size + 2) := boxW_size [cV a b c d u v, cV 0 0 0 0 0 0] w
  have B0 := Lib.hid (boxW_below [cV a b c d u v, cV 0 0 0 0 0 0] w)
  unfold invR
  cases hV : okV a b c d u v with
  | false =>
    rw [hV] at CM
    rw [if_neg (by decide)]
    clear hV
    go_enter Try.func39, Try.ntmps39
    go_wp2_with fail
    refine (CM.out _).mono ?_
    rintro e w1 ⟨rfl, hb1⟩
    have B1 := Lib.hid (bvia B0.out hb1)
    have hb1' : Below (w.heap.size + 2) (boxW w [cV a b c d u v, cV 0 0 0 0 0 0]) w1 := by rw [← S0.out]; exact hb1
    clear hb1
    have g0 := F0.out w1 hb1' 0 _ rfl
    have g1 := F0.out w1 hb1' 1 _ rfl
    have x0 : w1.cell? ⟨w.heap.size, 0, none⟩ = some (.int .i64 a) := g0.cell 0
    have x1 : w1.cell? ⟨w.heap.size, 1, none⟩ = some (.int .i64 b) := g0.cell 1
    have x2 : w1.cell? ⟨w.heap.size, 2, none⟩ = some (.int .i64 c) := g0.cell 2
    have x3 : w1.cell? ⟨w.heap.size, 3, none⟩ = some (.int .i64 d) := g0.cell 3
    have x4 : w1.cell? ⟨w.heap.size, 4, none⟩ = some (.int .i64 u) := g0.cell 4
    have x5 : w1.cell? ⟨w.heap.size, 5, none⟩ = some (.int .i64 v) := g0.cell 5
    have y0 : w1.cell? ⟨w.heap.size + 1, 0, none⟩ = some (.int .i64 0) := g1.cell 0
    have y1 : w1.cell? ⟨w.heap.size + 1, 1, none⟩ = some (.int .i64 0) := g1.cell 1
    have y2 : w1.cell? ⟨w.heap.size + 1, 2, none⟩ = some (.int .i64 0) := g1.cell 2
    have y3 : w1.cell? ⟨w.heap.size + 1, 3, none⟩ = some (.int .i64 0) := g1.cell 3
    have y4 : w1.cell? ⟨w.heap.size + 1, 4, none⟩ = some (.int .i64 0) := g1.cell 4
    have y5 : w1.cell? ⟨w.heap.size + 1, 5, none⟩ = some (.int .i64 0) := g1.cell 5
    have f0 : w1.frozen? ⟨w.heap.size + 1, 0, none⟩ = false := g1.free 0
    have f1 : w1.frozen? ⟨w.heap.size + 1, 1, none⟩ = false := g1.free 1
    have f2 : w1.frozen? ⟨w.heap.size + 1, 2, none⟩ = false := g1.free 2
    have f3 : w1.frozen? ⟨w.heap.size + 1, 3, none⟩ = false := g1.free 3
    have f4 : w1.frozen? ⟨w.heap.size + 1, 4, none⟩ = false := g1.free 4
    have f5 : w1.frozen? ⟨w.heap.size + 1, 5, none⟩ = false := g1.free 5
    have q0 : w.heap.size < w1.heap.size := g0.lt
    have q1 : w.heap.size + 1 < w1.heap.size := g1.lt
    have G2 : Hid (Has w1 (w.heap.size + 1) 58 [.int .i64 0, .int .i64 0, .int .i64 0, .int .i64 0, .int .i64 0, .int .i64 0]) := g1
    clear hb1' g0 g1 F0 S0 B0 CM
    go_wp2
    refine post_cell_tmp (g := w.heap.size + 1) (t := 58) (cs := [.int .i64 0, .int .i64 0, .int .i64 0, .int .i64 0, .int .i64 0, .int .i64 0]) (v := .int .i64 2) ?_ rfl rfl rfl rfl Try.underlying58 (by kernel_rfl) ⟨rfl, ?_⟩
    · exact ((((((G2.out.set 0 _).set 1 _).set 2 _).set 3 _).set 4 _).set 5 _)
    · exact ((((((B1.out.setCell (p := ⟨w.heap.size + 1, 0, none⟩) (show w.heap.size ≤ w.heap.size + 1 by omega) _).setCell (p := ⟨w.heap.size + 1, 1, none⟩) (show w.heap.size ≤ w.heap.size + 1 by omega) _).setCell (p := ⟨w.heap.size + 1, 2, none⟩) (show w.heap.size ≤ w.heap.size + 1 by omega) _).setCell (p := ⟨w.heap.size + 1, 3, none⟩) (show w.heap.size ≤ w.heap.size + 1 by omega) _).setCell (p := ⟨w.heap.size + 1, 4, none⟩) (show w.heap.size ≤ w.heap.size + 1 by omega) _).setCell (p := ⟨w.heap.size + 1, 5, none⟩) (show w.heap.size ≤ w.heap.size + 1 by omega) _)
  | true =>
    rw [hV] at CM
    rw [if_pos rfl]
    obtain ⟨⟨ha, hb, hc, hd⟩, hu, hv⟩ := (okV_iff a b c d u v).1 hV
    have CD := Lib.hid (fun W => mdetC a b c d 10000 W ha hb hc hd (by decide))
    by_cases hD : a * d - b * c = 1 ∨ a * d - b * c = -1
    case neg =>
      rw [if_neg hD]
      obtain ⟨E, hE⟩ : ∃ E, E = a * d - b * c := ⟨_, rfl⟩
      rw [← hE] at hD CD
      have j1 : (E != 1) = true := bne_iff_ne.2 (fun h => hD (.inl h))
      have j2 : (E != -1) = true := bne_iff_ne.2 (fun h => hD (.inr h))
      clear hE hD hV ha hb hc hd hu hv
      go_enter Try.func39, Try.ntmps39
      go_wp2_with fail
      refine (CM.out _).mono ?_
      rintro e w1 ⟨rfl, hb1⟩
      have B1 := Lib.hid (bvia B0.out hb1)
      have hb1' : Below (w.heap.size + 2) (boxW w [cV a b c d u v, cV 0 0 0 0 0 0]) w1 := by rw [← S0.out]; exact hb1
      clear hb1
      have g0 := F0.out w1 hb1' 0 _ rfl
      have g1 := F0.out w1 hb1' 1 _ rfl
      have x0 : w1.cell? ⟨w.heap.size, 0, none⟩ = some (.int .i64 a) := g0.cell 0
      have x1 : w1.cell? ⟨w.heap.size, 1, none⟩ = some (.int .i64 b) := g0.cell 1
      have x2 : w1.cell? ⟨w.heap.size, 2, none⟩ = some (.int .i64 c) := g0.cell 2
      have x3 : w1.cell? ⟨w.heap.size, 3, none⟩ = some (.int .i64 d) := g0.cell 3
      have x4 : w1.cell? ⟨w.heap.size, 4, none⟩ = some (.int .i64 u) := g0.cell 4
      have x5 : w1.cell? ⟨w.heap.size, 5, none⟩ = some (.int .i64 v) := g0.cell 5
      have y0 : w1.cell? ⟨w.heap.size + 1, 0, none⟩ = some (.int .i64 0) := g1.cell 0
      have y1 : w1.cell? ⟨w.heap.size + 1, 1, none⟩ = some (.int .i64 0) := g1.cell 1
      have y2 : w1.cell? ⟨w.heap.size + 1, 2, none⟩ = some (.int .i64 0) := g1.cell 2
      have y3 : w1.cell? ⟨w.heap.size + 1, 3, none⟩ = some (.int .i64 0) := g1.cell 3
      have y4 : w1.cell? ⟨w.heap.size + 1, 4, none⟩ = some (.int .i64 0) := g1.cell 4
      have y5 : w1.cell? ⟨w.heap.size + 1, 5, none⟩ = some (.int .i64 0) := g1.cell 5
      have f0 : w1.frozen? ⟨w.heap.size + 1, 0, none⟩ = false := g1.free 0
      have f1 : w1.frozen? ⟨w.heap.size + 1, 1, none⟩ = false := g1.free 1
      have f2 : w1.frozen? ⟨w.heap.size + 1, 2, none⟩ = false := g1.free 2
      have f3 : w1.frozen? ⟨w.heap.size + 1, 3, none⟩ = false := g1.free 3
      have f4 : w1.frozen? ⟨w.heap.size + 1, 4, none⟩ = false := g1.free 4
      have f5 : w1.frozen? ⟨w.heap.size + 1, 5, none⟩ = false := g1.free 5
      have q0 : w.heap.size < w1.heap.size := g0.lt
      have q1 : w.heap.size + 1 < w1.heap.size := g1.lt
      have G2 : Hid (Has w1 (w.heap.size + 1) 58 [.int .i64 0, .int .i64 0, .int .i64 0, .int .i64 0, .int .i64 0, .int .i64 0]) := g1
      have HB1 := Lib.hid hb1'
      clear hb1' g0 g1
      go_wp2_with fail
      refine (CD.out _).mono ?_
      rintro e w2 ⟨rfl, hb3⟩
      have z9 := HB1.out.size
      rw [S0.out] at z9
      have hb1' := HB1.out.trans (hb3.mono z9)
      have B2 := Lib.hid (bvia B1.out hb3)
      clear x0 x1 x2 x3 x4 x5 y0 y1 y2 y3 y4 y5 f0 f1 f2 f3 f4 f5 q0 q1 G2 z9 hb3
      have g0 := F0.out w2 hb1' 0 _ rfl
      have g1 := F0.out w2 hb1' 1 _ rfl
      have x0 : w2.cell? ⟨w.heap.size, 0, none⟩ = some (.int .i64 a) := g0.cell 0
      have x1 : w2.cell? ⟨w.heap.size, 1, none⟩ = some (.int .i64 b) := g0.cell 1
      have x2 : w2.cell? ⟨w.heap.size, 2, none⟩ = some (.int .i64 c) := g0.cell 2
      have x3 : w2.cell? ⟨w.heap.size, 3, none⟩ = some (.int .i64 d) := g0.cell 3
      have x4 : w2.cell? ⟨w.heap.size, 4, none⟩ = some (.int .i64 u) := g0.cell 4
      have x5 : w2.cell? ⟨w.heap.size, 5, none⟩ = some (.int .i64 v) := g0.cell 5
      have y0 : w2.cell? ⟨w.heap.size + 1, 0, none⟩ = some (.int .i64 0) := g1.cell 0
      have y1 : w2.cell? ⟨w.heap.size + 1, 1, none⟩ = some (.int .i64 0) := g1.cell 1
      have y2 : w2.cell? ⟨w.heap.size + 1, 2, none⟩ = some (.int .i64 0) := g1.cell 2
      have y3 : w2.cell? ⟨w.heap.size + 1, 3, none⟩ = some (.int .i64 0) := g1.cell 3
      have y4 : w2.cell? ⟨w.heap.size + 1, 4, none⟩ = some (.int .i64 0) := g1.cell 4
      have y5 : w2.cell? ⟨w.heap.size + 1, 5, none⟩ = some (.int .i64 0) := g1.cell 5
      have f0 : w2.frozen? ⟨w.heap.size + 1, 0, none⟩ = false := g1.free 0
      have f1 : w2.frozen? ⟨w.heap.size + 1, 1, none⟩ = false := g1.free 1
      have f2 : w2.frozen? ⟨w.heap.size + 1, 2, none⟩ = false := g1.free 2
      have f3 : w2.frozen? ⟨w.heap.size + 1, 3, none⟩ = false := g1.free 3
      have f4 : w2.frozen? ⟨w.heap.size + 1, 4, none⟩ = false := g1.free 4
      have f5 : w2.frozen? ⟨w.heap.size + 1, 5, none⟩ = false := g1.free 5
      have q0 : w.heap.size < w2.heap.size := g0.lt
      have q1 : w.heap.size + 1 < w2.heap.size := g1.lt
      have G2 : Hid (Has w2 (w.heap.size + 1) 58 [.int .i64 0, .int .i64 0, .int .i64 0, .int .i64 0, .int .i64 0, .int .i64 0]) := g1
      clear hb1' g0 g1 F0 S0 B0 CM CD
      go_wp2
      refine post_cell_tmp (g := w.heap.size + 1) (t := 58) (cs := [.int .i64 0, .int .i64 0, .int .i64 0, .int .i64 0, .int .i64 0, .int .i64 0]) (v := .int .i64 6) ?_ rfl rfl rfl rfl Try.underlying58 (by kernel_rfl) ⟨rfl, ?_⟩
      · exact ((((((G2.out.set 0 _).set 1 _).set 2 _).set 3 _).set 4 _).set 5 _)
      · exact ((((((B2.out.setCell (p := ⟨w.heap.size + 1, 0, none⟩) (show w.heap.size ≤ w.heap.size + 1 by omega) _).setCell (p := ⟨w.heap.size + 1, 1, none⟩) (show w.heap.size ≤ w.heap.size + 1 by omega) _).setCell (p := ⟨w.heap.size + 1, 2, none⟩) (show w.heap.size ≤ w.heap.size + 1 by omega) _).setCell (p := ⟨w.heap.size + 1, 3, none⟩) (show w.heap.size ≤ w.heap.size + 1 by omega) _).setCell (p := ⟨w.heap.size + 1, 4, none⟩) (show w.heap.size ≤ w.heap.size + 1 by omega) _).setCell (p := ⟨w.heap.size + 1, 5, none⟩) (show w.heap.size ≤ w.heap.size + 1 by omega) _)
    rw [if_pos hD]
    have CI := Lib.hid (fun W => inverseC a b c d 10000 W ha hb hc hd (by decide) hD)
    have bp := (unit_bnd hD hd).1
    have bq := (unit_bnd hD hb).2
    have br := (unit_bnd hD hc).2
    have bs := (unit_bnd hD ha).1
    have hQ : invQ a b c d u v = ((a * d - b * c) * d, -(a * d - b * c) * b, -(a * d - b * c) * c, (a * d - b * c) * a, -((a * d - b * c) * d * u + -(a * d - b * c) * b * v + 0), -(-(a * d - b * c) * c * u + (a * d - b * c) * a * v + 0)) := rfl
    rw [hQ]
    clear hQ
    have j1 : (a * d - b * c != 1 && a * d - b * c != -1) = false := by rcases hD with h | h <;> rw [h] <;> rfl
    obtain ⟨E, hE⟩ : ∃ E, E = a * d - b * c := ⟨_, rfl⟩
    rw [← hE] at hD CD CI bp bq br bs j1 ⊢
    clear hE hV ha hb hc hd
    generalize E * d = p at *
    generalize -E * b = q at *
    generalize -E * c = r at *
    generalize E * a = s at *
    have CG := Lib.hid (fun W => imageC p q r s 0 0 u v 10000 1000000 0 W bp bq br bs ⟨by omega, by omega⟩ ⟨by omega, by omega⟩ hu hv (by decide) (by decide))
    have m1 := mb 10000 1000000 10000000000 bp hu (by decide)
    have m2 := mb 10000 1000000 10000000000 bq hv (by decide)
    have m3 := mb 10000 1000000 10000000000 br hu (by decide)
    have m4 := mb 10000 1000000 10000000000 bs hv (by decide)
    have i1 : IntKind.i64.wrap (-(p * u + q * v + 0)) = -(p * u + q * v + 0) := IntWalk.i64_in _ (by omega)
    have i2 : IntKind.i64.wrap (-(r * u + s * v + 0)) = -(r * u + s * v + 0) := IntWalk.i64_in _ (by omega)
    clear m1 m2 m3 m4 bp bq br bs hu hv
    generalize p * u + q * v + 0 = X at *
    generalize r * u + s * v + 0 = Y at *
    have CV := Lib.hid (fun W => validC p q r s (-X) (-Y) W)
    unfold okV6 vV6
    simp only
    rcases hD with rfl | rfl
    · cases hO : okV p q r s (-X) (-Y) with
      | false =>
        rw [hO] at CV
        rw [if_neg (by decide)]
        clear hO
        go_enter Try.func39, Try.ntmps39
        go_wp2_with fail
        refine (CM.out _).mono ?_
        rintro e w1 ⟨rfl, hb1⟩
        have B1 := Lib.hid (bvia B0.out hb1)
        have hb1' : Below (w.heap.size + 2) (boxW w [cV a b c d u v, cV 0 0 0 0 0 0]) w1 := by rw [← S0.out]; exact hb1
        clear hb1
        have g0 := F0.out w1 hb1' 0 _ rfl
        have g1 := F0.out w1 hb1' 1 _ rfl
        have x0 : w1.cell? ⟨w.heap.size, 0, none⟩ = some (.int .i64 a) := g0.cell 0
        have x1 : w1.cell? ⟨w.heap.size, 1, none⟩ = some (.int .i64 b) := g0.cell 1
        have x2 : w1.cell? ⟨w.heap.size, 2, none⟩ = some (.int .i64 c) := g0.cell 2
        have x3 : w1.cell? ⟨w.heap.size, 3, none⟩ = some (.int .i64 d) := g0.cell 3
        have x4 : w1.cell? ⟨w.heap.size, 4, none⟩ = some (.int .i64 u) := g0.cell 4
        have x5 : w1.cell? ⟨w.heap.size, 5, none⟩ = some (.int .i64 v) := g0.cell 5
        have y0 : w1.cell? ⟨w.heap.size + 1, 0, none⟩ = some (.int .i64 0) := g1.cell 0
        have y1 : w1.cell? ⟨w.heap.size + 1, 1, none⟩ = some (.int .i64 0) := g1.cell 1
        have y2 : w1.cell? ⟨w.heap.size + 1, 2, none⟩ = some (.int .i64 0) := g1.cell 2
        have y3 : w1.cell? ⟨w.heap.size + 1, 3, none⟩ = some (.int .i64 0) := g1.cell 3
        have y4 : w1.cell? ⟨w.heap.size + 1, 4, none⟩ = some (.int .i64 0) := g1.cell 4
        have y5 : w1.cell? ⟨w.heap.size + 1, 5, none⟩ = some (.int .i64 0) := g1.cell 5
        have f0 : w1.frozen? ⟨w.heap.size + 1, 0, none⟩ = false := g1.free 0
        have f1 : w1.frozen? ⟨w.heap.size + 1, 1, none⟩ = false := g1.free 1
        have f2 : w1.frozen? ⟨w.heap.size + 1, 2, none⟩ = false := g1.free 2
        have f3 : w1.frozen? ⟨w.heap.size + 1, 3, none⟩ = false := g1.free 3
        have f4 : w1.frozen? ⟨w.heap.size + 1, 4, none⟩ = false := g1.free 4
        have f5 : w1.frozen? ⟨w.heap.size + 1, 5, none⟩ = false := g1.free 5
        have q0 : w.heap.size < w1.heap.size := g0.lt
        have q1 : w.heap.size + 1 < w1.heap.size := g1.lt
        have G2 : Hid (Has w1 (w.heap.size + 1) 58 [.int .i64 0, .int .i64 0, .int .i64 0, .int .i64 0, .int .i64 0, .int .i64 0]) := g1
        have HB1 := Lib.hid hb1'
        clear hb1' g0 g1
        go_wp2_with fail
        refine (CD.out _).mono ?_
        rintro e w2 ⟨rfl, hb3⟩
        have z9 := HB1.out.size
        rw [S0.out] at z9
        have hb1' := HB1.out.trans (hb3.mono z9)
        have B2 := Lib.hid (bvia B1.out hb3)
        clear x0 x1 x2 x3 x4 x5 y0 y1 y2 y3 y4 y5 f0 f1 f2 f3 f4 f5 q0 q1 G2 z9 hb3
        have g0 := F0.out w2 hb1' 0 _ rfl
        have g1 := F0.out w2 hb1' 1 _ rfl
        have x0 : w2.cell? ⟨w.heap.size, 0, none⟩ = some (.int .i64 a) := g0.cell 0
        have x1 : w2.cell? ⟨w.heap.size, 1, none⟩ = some (.int .i64 b) := g0.cell 1
        have x2 : w2.cell? ⟨w.heap.size, 2, none⟩ = some (.int .i64 c) := g0.cell 2
        have x3 : w2.cell? ⟨w.heap.size, 3, none⟩ = some (.int .i64 d) := g0.cell 3
        have x4 : w2.cell? ⟨w.heap.size, 4, none⟩ = some (.int .i64 u) := g0.cell 4
        have x5 : w2.cell? ⟨w.heap.size, 5, none⟩ = some (.int .i64 v) := g0.cell 5
        have y0 : w2.cell? ⟨w.heap.size + 1, 0, none⟩ = some (.int .i64 0) := g1.cell 0
        have y1 : w2.cell? ⟨w.heap.size + 1, 1, none⟩ = some (.int .i64 0) := g1.cell 1
        have y2 : w2.cell? ⟨w.heap.size + 1, 2, none⟩ = some (.int .i64 0) := g1.cell 2
        have y3 : w2.cell? ⟨w.heap.size + 1, 3, none⟩ = some (.int .i64 0) := g1.cell 3
        have y4 : w2.cell? ⟨w.heap.size + 1, 4, none⟩ = some (.int .i64 0) := g1.cell 4
        have y5 : w2.cell? ⟨w.heap.size + 1, 5, none⟩ = some (.int .i64 0) := g1.cell 5
        have f0 : w2.frozen? ⟨w.heap.size + 1, 0, none⟩ = false := g1.free 0
        have f1 : w2.frozen? ⟨w.heap.size + 1, 1, none⟩ = false := g1.free 1
        have f2 : w2.frozen? ⟨w.heap.size + 1, 2, none⟩ = false := g1.free 2
        have f3 : w2.frozen? ⟨w.heap.size + 1, 3, none⟩ = false := g1.free 3
        have f4 : w2.frozen? ⟨w.heap.size + 1, 4, none⟩ = false := g1.free 4
        have f5 : w2.frozen? ⟨w.heap.size + 1, 5, none⟩ = false := g1.free 5
        have q0 : w.heap.size < w2.heap.size := g0.lt
        have q1 : w.heap.size + 1 < w2.heap.size := g1.lt
        have G2 : Hid (Has w2 (w.heap.size + 1) 58 [.int .i64 0, .int .i64 0, .int .i64 0, .int .i64 0, .int .i64 0, .int .i64 0]) := g1
        have HB2 := Lib.hid hb1'
        clear hb1' g0 g1
        go_wp2_with fail
        refine (CI.out _).mono ?_
        rintro e w3 ⟨rfl, hb3⟩
        have z9 := HB2.out.size
        rw [S0.out] at z9
        have hb1' := HB2.out.trans (hb3.mono z9)
        have B3 := Lib.hid (bvia B2.out hb3)
        clear x0 x1 x2 x3 x4 x5 y0 y1 y2 y3 y4 y5 f0 f1 f2 f3 f4 f5 q0 q1 G2 z9 hb3
        have g0 := F0.out w3 hb1' 0 _ rfl
        have g1 := F0.out w3 hb1' 1 _ rfl
        have x0 : w3.cell? ⟨w.heap.size, 0, none⟩ = some (.int .i64 a) := g0.cell 0
        have x1 : w3.cell? ⟨w.heap.size, 1, none⟩ = some (.int .i64 b) := g0.cell 1
        have x2 : w3.cell? ⟨w.heap.size, 2, none⟩ = some (.int .i64 c) := g0.cell 2
        have x3 : w3.cell? ⟨w.heap.size, 3, none⟩ = some (.int .i64 d) := g0.cell 3
        have x4 : w3.cell? ⟨w.heap.size, 4, none⟩ = some (.int .i64 u) := g0.cell 4
        have x5 : w3.cell? ⟨w.heap.size, 5, none⟩ = some (.int .i64 v) := g0.cell 5
        have y0 : w3.cell? ⟨w.heap.size + 1, 0, none⟩ = some (.int .i64 0) := g1.cell 0
        have y1 : w3.cell? ⟨w.heap.size + 1, 1, none⟩ = some (.int .i64 0) := g1.cell 1
        have y2 : w3.cell? ⟨w.heap.size + 1, 2, none⟩ = some (.int .i64 0) := g1.cell 2
        have y3 : w3.cell? ⟨w.heap.size + 1, 3, none⟩ = some (.int .i64 0) := g1.cell 3
        have y4 : w3.cell? ⟨w.heap.size + 1, 4, none⟩ = some (.int .i64 0) := g1.cell 4
        have y5 : w3.cell? ⟨w.heap.size + 1, 5, none⟩ = some (.int .i64 0) := g1.cell 5
        have f0 : w3.frozen? ⟨w.heap.size + 1, 0, none⟩ = false := g1.free 0
        have f1 : w3.frozen? ⟨w.heap.size + 1, 1, none⟩ = false := g1.free 1
        have f2 : w3.frozen? ⟨w.heap.size + 1, 2, none⟩ = false := g1.free 2
        have f3 : w3.frozen? ⟨w.heap.size + 1, 3, none⟩ = false := g1.free 3
        have f4 : w3.frozen? ⟨w.heap.size + 1, 4, none⟩ = false := g1.free 4
        have f5 : w3.frozen? ⟨w.heap.size + 1, 5, none⟩ = false := g1.free 5
        have q0 : w.heap.size < w3.heap.size := g0.lt
        have q1 : w.heap.size + 1 < w3.heap.size := g1.lt
        have G2 : Hid (Has w3 (w.heap.size + 1) 58 [.int .i64 0, .int .i64 0, .int .i64 0, .int .i64 0, .int .i64 0, .int .i64 0]) := g1
        have HB3 := Lib.hid hb1'
        have z8 := hb1'.size
        rw [S0.out] at z8
        have D3 := Lib.hid ((Below.refl w3.heap.size w3).alloc (Nat.le_refl _) (.cells #[.int .i64 p, .int .i64 q, .int .i64 r, .int .i64 s, .int .i64 0, .int .i64 0] 58))
        have hK : Has (w3.alloc (.cells #[.int .i64 p, .int .i64 q, .int .i64 r, .int .i64 s, .int .i64 0, .int .i64 0] 58)) w3.heap.size 58 [.int .i64 p, .int .i64 q, .int .i64 r, .int .i64 s, .int .i64 0, .int .i64 0] := Has.new rfl
        have HK := Lib.hid hK
        clear hb1' g0 g1 hK
        go_wp2_with fail
        refine (CG.out _).mono ?_
        rintro e w4 ⟨rfl, hb4⟩
        have hk4 := HK.out.below hb4 HK.out.lt
        have k0 : w4.cell? ⟨w3.heap.size, 0, none⟩ = some (.int .i64 p) := hk4.cell 0
        have k1 : w4.cell? ⟨w3.heap.size, 1, none⟩ = some (.int .i64 q) := hk4.cell 1
        have k2 : w4.cell? ⟨w3.heap.size, 2, none⟩ = some (.int .i64 r) := hk4.cell 2
        have k3 : w4.cell? ⟨w3.heap.size, 3, none⟩ = some (.int .i64 s) := hk4.cell 3
        have k4 : w4.cell? ⟨w3.heap.size, 4, none⟩ = some (.int .i64 0) := hk4.cell 4
        have k5 : w4.cell? ⟨w3.heap.size, 5, none⟩ = some (.int .i64 0) := hk4.cell 5
        have kf0 : w4.frozen? ⟨w3.heap.size, 0, none⟩ = false := hk4.free 0
        have kf1 : w4.frozen? ⟨w3.heap.size, 1, none⟩ = false := hk4.free 1
        have kf2 : w4.frozen? ⟨w3.heap.size, 2, none⟩ = false := hk4.free 2
        have kf3 : w4.frozen? ⟨w3.heap.size, 3, none⟩ = false := hk4.free 3
        have kf4 : w4.frozen? ⟨w3.heap.size, 4, none⟩ = false := hk4.free 4
        have kf5 : w4.frozen? ⟨w3.heap.size, 5, none⟩ = false := hk4.free 5
        have kl : w3.heap.size < w4.heap.size := hk4.lt
        have HK4 := Lib.hid hk4
        have hb6 := bvia D3.out hb4
        have hb1' := HB3.out.trans (hb6.mono z8)
        have B4 := Lib.hid (bvia B3.out hb6)
        clear x0 x1 x2 x3 x4 x5 y0 y1 y2 y3 y4 y5 f0 f1 f2 f3 f4 f5 q0 q1 G2
        have g0 := F0.out w4 hb1' 0 _ rfl
        have g1 := F0.out w4 hb1' 1 _ rfl
        have x0 : w4.cell? ⟨w.heap.size, 0, none⟩ = some (.int .i64 a) := g0.cell 0
        have x1 : w4.cell? ⟨w.heap.size, 1, none⟩ = some (.int .i64 b) := g0.cell 1
        have x2 : w4.cell? ⟨w.heap.size, 2, none⟩ = some (.int .i64 c) := g0.cell 2
        have x3 : w4.cell? ⟨w.heap.size, 3, none⟩ = some (.int .i64 d) := g0.cell 3
        have x4 : w4.cell? ⟨w.heap.size, 4, none⟩ = some (.int .i64 u) := g0.cell 4
        have x5 : w4.cell? ⟨w.heap.size, 5, none⟩ = some (.int .i64 v) := g0.cell 5
        have y0 : w4.cell? ⟨w.heap.size + 1, 0, none⟩ = some (.int .i64 0) := g1.cell 0
        have y1 : w4.cell? ⟨w.heap.size + 1, 1, none⟩ = some (.int .i64 0) := g1.cell 1
        have y2 : w4.cell? ⟨w.heap.size + 1, 2, none⟩ = some (.int .i64 0) := g1.cell 2
        have y3 : w4.cell? ⟨w.heap.size + 1, 3, none⟩ = some (.int .i64 0) := g1.cell 3
        have y4 : w4.cell? ⟨w.heap.size + 1, 4, none⟩ = some (.int .i64 0) := g1.cell 4
        have y5 : w4.cell? ⟨w.heap.size + 1, 5, none⟩ = some (.int .i64 0) := g1.cell 5
        have f0 : w4.frozen? ⟨w.heap.size + 1, 0, none⟩ = false := g1.free 0
        have f1 : w4.frozen? ⟨w.heap.size + 1, 1, none⟩ = false := g1.free 1
        have f2 : w4.frozen? ⟨w.heap.size + 1, 2, none⟩ = false := g1.free 2
        have f3 : w4.frozen? ⟨w.heap.size + 1, 3, none⟩ = false := g1.free 3
        have f4 : w4.frozen? ⟨w.heap.size + 1, 4, none⟩ = false := g1.free 4
        have f5 : w4.frozen? ⟨w.heap.size + 1, 5, none⟩ = false := g1.free 5
        have q0 : w.heap.size < w4.heap.size := g0.lt
        have q1 : w.heap.size + 1 < w4.heap.size := g1.lt
        have G2 : Hid (Has w4 (w.heap.size + 1) 58 [.int .i64 0, .int .i64 0, .int .i64 0, .int .i64 0, .int .i64 0, .int .i64 0]) := g1
        have HB4 := Lib.hid hb1'
        clear hb1' g0 g1 hb4 hb6 hk4 D3 HK HB3
        have hne : w.heap.size + 1 ≠ w3.heap.size := by omega
        have hle : w.heap.size ≤ w3.heap.size := by omega
        have g6 := Lib.hid (((G2.out.far hne 4 (.int .i64 (-X))).far hne 5 (.int .i64 (-Y))).alloc (.cells #[.int .i64 X, .int .i64 Y] 25))
        have b6 := Lib.hid (bvia ((B4.out.setCell (p := ⟨w3.heap.size, 4, none⟩) hle (.int .i64 (-X))).setCell (p := ⟨w3.heap.size, 5, none⟩) hle (.int .i64 (-Y))) ((Below.refl _ ((w4.setCell ⟨w3.heap.size, 4, none⟩ (.int .i64 (-X))).setCell ⟨w3.heap.size, 5, none⟩ (.int .i64 (-Y)))).alloc (Nat.le_refl _) (.cells #[.int .i64 X, .int .i64 Y] 25)))
        clear G2 hne hle
        go_wp2_with fail
        refine (CV.out _).mono ?_
        rintro e w5 ⟨rfl, hb5⟩
        have g1 := g6.out.below hb5 g6.out.lt
        have B5 := Lib.hid (bvia b6.out hb5)
        clear x0 x1 x2 x3 x4 x5 y0 y1 y2 y3 y4 y5 f0 f1 f2 f3 f4 f5 q0 q1 k0 k1 k2 k3 k4 k5 kf0 kf1 kf2 kf3 kf4 kf5 kl
        have y0 : w5.cell? ⟨w.heap.size + 1, 0, none⟩ = some (.int .i64 0) := g1.cell 0
        have y1 : w5.cell? ⟨w.heap.size + 1, 1, none⟩ = some (.int .i64 0) := g1.cell 1
        have y2 : w5.cell? ⟨w.heap.size + 1, 2, none⟩ = some (.int .i64 0) := g1.cell 2
        have y3 : w5.cell? ⟨w.heap.size + 1, 3, none⟩ = some (.int .i64 0) := g1.cell 3
        have y4 : w5.cell? ⟨w.heap.size + 1, 4, none⟩ = some (.int .i64 0) := g1.cell 4
        have y5 : w5.cell? ⟨w.heap.size + 1, 5, none⟩ = some (.int .i64 0) := g1.cell 5
        have f0 : w5.frozen? ⟨w.heap.size + 1, 0, none⟩ = false := g1.free 0
        have f1 : w5.frozen? ⟨w.heap.size + 1, 1, none⟩ = false := g1.free 1
        have f2 : w5.frozen? ⟨w.heap.size + 1, 2, none⟩ = false := g1.free 2
        have f3 : w5.frozen? ⟨w.heap.size + 1, 3, none⟩ = false := g1.free 3
        have f4 : w5.frozen? ⟨w.heap.size + 1, 4, none⟩ = false := g1.free 4
        have f5 : w5.frozen? ⟨w.heap.size + 1, 5, none⟩ = false := g1.free 5
        have q1 : w.heap.size + 1 < w5.heap.size := g1.lt
        have G2 : Hid (Has w5 (w.heap.size + 1) 58 [.int .i64 0, .int .i64 0, .int .i64 0, .int .i64 0, .int .i64 0, .int .i64 0]) := g1
        clear hb5 g1 g6 b6 HB4 HK4
        go_wp2
        refine post_cell_tmp (g := w.heap.size + 1) (t := 58) (cs := [.int .i64 0, .int .i64 0, .int .i64 0, .int .i64 0, .int .i64 0, .int .i64 0]) (v := .int .i64 7) ?_ rfl rfl rfl rfl Try.underlying58 (by kernel_rfl) ⟨rfl, ?_⟩
        · exact ((((((G2.out.set 0 _).set 1 _).set 2 _).set 3 _).set 4 _).set 5 _)
        · exact ((((((B5.out.setCell (p := ⟨w.heap.size + 1, 0, none⟩) (show w.heap.size ≤ w.heap.size + 1 by omega) _).setCell (p := ⟨w.heap.size + 1, 1, none⟩) (show w.heap.size ≤ w.heap.size + 1 by omega) _).setCell (p := ⟨w.heap.size + 1, 2, none⟩) (show w.heap.size ≤ w.heap.size + 1 by omega) _).setCell (p := ⟨w.heap.size + 1, 3, none⟩) (show w.heap.size ≤ w.heap.size + 1 by omega) _).setCell (p := ⟨w.heap.size + 1, 4, none⟩) (show w.heap.size ≤ w.heap.size + 1 by omega) _).setCell (p := ⟨w.heap.size + 1, 5, none⟩) (show w.heap.size ≤ w.heap.size + 1 by omega) _)
      | true =>
        rw [hO] at CV
        rw [if_pos rfl, if_pos rfl] at CV
        rw [if_pos rfl]
        clear hO
        go_enter Try.func39, Try.ntmps39
        go_wp2_with fail
        refine (CM.out _).mono ?_
        rintro e w1 ⟨rfl, hb1⟩
        have B1 := Lib.hid (bvia B0.out hb1)
        have hb1' : Below (w.heap.size + 2) (boxW w [cV a b c d u v, cV 0 0 0 0 0 0]) w1 := by rw [← S0.out]; exact hb1
        clear hb1
        have g0 := F0.out w1 hb1' 0 _ rfl
        have g1 := F0.out w1 hb1' 1 _ rfl
        have x0 : w1.cell? ⟨w.heap.size, 0, none⟩ = some (.int .i64 a) := g0.cell 0
        have x1 : w1.cell? ⟨w.heap.size, 1, none⟩ = some (.int .i64 b) := g0.cell 1
        have x2 : w1.cell? ⟨w.heap.size, 2, none⟩ = some (.int .i64 c) := g0.cell 2
        have x3 : w1.cell? ⟨w.heap.size, 3, none⟩ = some (.int .i64 d) := g0.cell 3
        have x4 : w1.cell? ⟨w.heap.size, 4, none⟩ = some (.int .i64 u) := g0.cell 4
        have x5 : w1.cell? ⟨w.heap.size, 5, none⟩ = some (.int .i64 v) := g0.cell 5
        have y0 : w1.cell? ⟨w.heap.size + 1, 0, none⟩ = some (.int .i64 0) := g1.cell 0
        have y1 : w1.cell? ⟨w.heap.size + 1, 1, none⟩ = some (.int .i64 0) := g1.cell 1
        have y2 : w1.cell? ⟨w.heap.size + 1, 2, none⟩ = some (.int .i64 0) := g1.cell 2
        have y3 : w1.cell? ⟨w.heap.size + 1, 3, none⟩ = some (.int .i64 0) := g1.cell 3
        have y4 : w1.cell? ⟨w.heap.size + 1, 4, none⟩ = some (.int .i64 0) := g1.cell 4
        have y5 : w1.cell? ⟨w.heap.size + 1, 5, none⟩ = some (.int .i64 0) := g1.cell 5
        have f0 : w1.frozen? ⟨w.heap.size + 1, 0, none⟩ = false := g1.free 0
        have f1 : w1.frozen? ⟨w.heap.size + 1, 1, none⟩ = false := g1.free 1
        have f2 : w1.frozen? ⟨w.heap.size + 1, 2, none⟩ = false := g1.free 2
        have f3 : w1.frozen? ⟨w.heap.size + 1, 3, none⟩ = false := g1.free 3
        have f4 : w1.frozen? ⟨w.heap.size + 1, 4, none⟩ = false := g1.free 4
        have f5 : w1.frozen? ⟨w.heap.size + 1, 5, none⟩ = false := g1.free 5
        have q0 : w.heap.size < w1.heap.size := g0.lt
        have q1 : w.heap.size + 1 < w1.heap.size := g1.lt
        have G2 : Hid (Has w1 (w.heap.size + 1) 58 [.int .i64 0, .int .i64 0, .int .i64 0, .int .i64 0, .int .i64 0, .int .i64 0]) := g1
        have HB1 := Lib.hid hb1'
        clear hb1' g0 g1
        go_wp2_with fail
        refine (CD.out _).mono ?_
        rintro e w2 ⟨rfl, hb3⟩
        have z9 := HB1.out.size
        rw [S0.out] at z9
        have hb1' := HB1.out.trans (hb3.mono z9)
        have B2 := Lib.hid (bvia B1.out hb3)
        clear x0 x1 x2 x3 x4 x5 y0 y1 y2 y3 y4 y5 f0 f1 f2 f3 f4 f5 q0 q1 G2 z9 hb3
        have g0 := F0.out w2 hb1' 0 _ rfl
        have g1 := F0.out w2 hb1' 1 _ rfl
        have x0 : w2.cell? ⟨w.heap.size, 0, none⟩ = some (.int .i64 a) := g0.cell 0
        have x1 : w2.cell? ⟨w.heap.size, 1, none⟩ = some (.int .i64 b) := g0.cell 1
        have x2 : w2.cell? ⟨w.heap.size, 2, none⟩ = some (.int .i64 c) := g0.cell 2
        have x3 : w2.cell? ⟨w.heap.size, 3, none⟩ = some (.int .i64 d) := g0.cell 3
        have x4 : w2.cell? ⟨w.heap.size, 4, none⟩ = some (.int .i64 u) := g0.cell 4
        have x5 : w2.cell? ⟨w.heap.size, 5, none⟩ = some (.int .i64 v) := g0.cell 5
        have y0 : w2.cell? ⟨w.heap.size + 1, 0, none⟩ = some (.int .i64 0) := g1.cell 0
        have y1 : w2.cell? ⟨w.heap.size + 1, 1, none⟩ = some (.int .i64 0) := g1.cell 1
        have y2 : w2.cell? ⟨w.heap.size + 1, 2, none⟩ = some (.int .i64 0) := g1.cell 2
        have y3 : w2.cell? ⟨w.heap.size + 1, 3, none⟩ = some (.int .i64 0) := g1.cell 3
        have y4 : w2.cell? ⟨w.heap.size + 1, 4, none⟩ = some (.int .i64 0) := g1.cell 4
        have y5 : w2.cell? ⟨w.heap.size + 1, 5, none⟩ = some (.int .i64 0) := g1.cell 5
        have f0 : w2.frozen? ⟨w.heap.size + 1, 0, none⟩ = false := g1.free 0
        have f1 : w2.frozen? ⟨w.heap.size + 1, 1, none⟩ = false := g1.free 1
        have f2 : w2.frozen? ⟨w.heap.size + 1, 2, none⟩ = false := g1.free 2
        have f3 : w2.frozen? ⟨w.heap.size + 1, 3, none⟩ = false := g1.free 3
        have f4 : w2.frozen? ⟨w.heap.size + 1, 4, none⟩ = false := g1.free 4
        have f5 : w2.frozen? ⟨w.heap.size + 1, 5, none⟩ = false := g1.free 5
        have q0 : w.heap.size < w2.heap.size := g0.lt
        have q1 : w.heap.size + 1 < w2.heap.size := g1.lt
        have G2 : Hid (Has w2 (w.heap.size + 1) 58 [.int .i64 0, .int .i64 0, .int .i64 0, .int .i64 0, .int .i64 0, .int .i64 0]) := g1
        have HB2 := Lib.hid hb1'
        clear hb1' g0 g1
        go_wp2_with fail
        refine (CI.out _).mono ?_
        rintro e w3 ⟨rfl, hb3⟩
        have z9 := HB2.out.size
        rw [S0.out] at z9
        have hb1' := HB2.out.trans (hb3.mono z9)
        have B3 := Lib.hid (bvia B2.out hb3)
        clear x0 x1 x2 x3 x4 x5 y0 y1 y2 y3 y4 y5 f0 f1 f2 f3 f4 f5 q0 q1 G2 z9 hb3
        have g0 := F0.out w3 hb1' 0 _ rfl
        have g1 := F0.out w3 hb1' 1 _ rfl
        have x0 : w3.cell? ⟨w.heap.size, 0, none⟩ = some (.int .i64 a) := g0.cell 0
        have x1 : w3.cell? ⟨w.heap.size, 1, none⟩ = some (.int .i64 b) := g0.cell 1
        have x2 : w3.cell? ⟨w.heap.size, 2, none⟩ = some (.int .i64 c) := g0.cell 2
        have x3 : w3.cell? ⟨w.heap.size, 3, none⟩ = some (.int .i64 d) := g0.cell 3
        have x4 : w3.cell? ⟨w.heap.size, 4, none⟩ = some (.int .i64 u) := g0.cell 4
        have x5 : w3.cell? ⟨w.heap.size, 5, none⟩ = some (.int .i64 v) := g0.cell 5
        have y0 : w3.cell? ⟨w.heap.size + 1, 0, none⟩ = some (.int .i64 0) := g1.cell 0
        have y1 : w3.cell? ⟨w.heap.size + 1, 1, none⟩ = some (.int .i64 0) := g1.cell 1
        have y2 : w3.cell? ⟨w.heap.size + 1, 2, none⟩ = some (.int .i64 0) := g1.cell 2
        have y3 : w3.cell? ⟨w.heap.size + 1, 3, none⟩ = some (.int .i64 0) := g1.cell 3
        have y4 : w3.cell? ⟨w.heap.size + 1, 4, none⟩ = some (.int .i64 0) := g1.cell 4
        have y5 : w3.cell? ⟨w.heap.size + 1, 5, none⟩ = some (.int .i64 0) := g1.cell 5
        have f0 : w3.frozen? ⟨w.heap.size + 1, 0, none⟩ = false := g1.free 0
        have f1 : w3.frozen? ⟨w.heap.size + 1, 1, none⟩ = false := g1.free 1
        have f2 : w3.frozen? ⟨w.heap.size + 1, 2, none⟩ = false := g1.free 2
        have f3 : w3.frozen? ⟨w.heap.size + 1, 3, none⟩ = false := g1.free 3
        have f4 : w3.frozen? ⟨w.heap.size + 1, 4, none⟩ = false := g1.free 4
        have f5 : w3.frozen? ⟨w.heap.size + 1, 5, none⟩ = false := g1.free 5
        have q0 : w.heap.size < w3.heap.size := g0.lt
        have q1 : w.heap.size + 1 < w3.heap.size := g1.lt
        have G2 : Hid (Has w3 (w.heap.size + 1) 58 [.int .i64 0, .int .i64 0, .int .i64 0, .int .i64 0, .int .i64 0, .int .i64 0]) := g1
        have HB3 := Lib.hid hb1'
        have z8 := hb1'.size
        rw [S0.out] at z8
        have D3 := Lib.hid ((Below.refl w3.heap.size w3).alloc (Nat.le_refl _) (.cells #[.int .i64 p, .int .i64 q, .int .i64 r, .int .i64 s, .int .i64 0, .int .i64 0] 58))
        have hK : Has (w3.alloc (.cells #[.int .i64 p, .int .i64 q, .int .i64 r, .int .i64 s, .int .i64 0, .int .i64 0] 58)) w3.heap.size 58 [.int .i64 p, .int .i64 q, .int .i64 r, .int .i64 s, .int .i64 0, .int .i64 0] := Has.new rfl
        have HK := Lib.hid hK
        clear hb1' g0 g1 hK
        go_wp2_with fail
        refine (CG.out _).mono ?_
        rintro e w4 ⟨rfl, hb4⟩
        have hk4 := HK.out.below hb4 HK.out.lt
        have k0 : w4.cell? ⟨w3.heap.size, 0, none⟩ = some (.int .i64 p) := hk4.cell 0
        have k1 : w4.cell? ⟨w3.heap.size, 1, none⟩ = some (.int .i64 q) := hk4.cell 1
        have k2 : w4.cell? ⟨w3.heap.size, 2, none⟩ = some (.int .i64 r) := hk4.cell 2
        have k3 : w4.cell? ⟨w3.heap.size, 3, none⟩ = some (.int .i64 s) := hk4.cell 3
        have k4 : w4.cell? ⟨w3.heap.size, 4, none⟩ = some (.int .i64 0) := hk4.cell 4
        have k5 : w4.cell? ⟨w3.heap.size, 5, none⟩ = some (.int .i64 0) := hk4.cell 5
        have kf0 : w4.frozen? ⟨w3.heap.size, 0, none⟩ = false := hk4.free 0
        have kf1 : w4.frozen? ⟨w3.heap.size, 1, none⟩ = false := hk4.free 1
        have kf2 : w4.frozen? ⟨w3.heap.size, 2, none⟩ = false := hk4.free 2
        have kf3 : w4.frozen? ⟨w3.heap.size, 3, none⟩ = false := hk4.free 3
        have kf4 : w4.frozen? ⟨w3.heap.size, 4, none⟩ = false := hk4.free 4
        have kf5 : w4.frozen? ⟨w3.heap.size, 5, none⟩ = false := hk4.free 5
        have kl : w3.heap.size < w4.heap.size := hk4.lt
        have HK4 := Lib.hid hk4
        have hb6 := bvia D3.out hb4
        have hb1' := HB3.out.trans (hb6.mono z8)
        have B4 := Lib.hid (bvia B3.out hb6)
        clear x0 x1 x2 x3 x4 x5 y0 y1 y2 y3 y4 y5 f0 f1 f2 f3 f4 f5 q0 q1 G2
        have g0 := F0.out w4 hb1' 0 _ rfl
        have g1 := F0.out w4 hb1' 1 _ rfl
        have x0 : w4.cell? ⟨w.heap.size, 0, none⟩ = some (.int .i64 a) := g0.cell 0
        have x1 : w4.cell? ⟨w.heap.size, 1, none⟩ = some (.int .i64 b) := g0.cell 1
        have x2 : w4.cell? ⟨w.heap.size, 2, none⟩ = some (.int .i64 c) := g0.cell 2
        have x3 : w4.cell? ⟨w.heap.size, 3, none⟩ = some (.int .i64 d) := g0.cell 3
        have x4 : w4.cell? ⟨w.heap.size, 4, none⟩ = some (.int .i64 u) := g0.cell 4
        have x5 : w4.cell? ⟨w.heap.size, 5, none⟩ = some (.int .i64 v) := g0.cell 5
        have y0 : w4.cell? ⟨w.heap.size + 1, 0, none⟩ = some (.int .i64 0) := g1.cell 0
        have y1 : w4.cell? ⟨w.heap.size + 1, 1, none⟩ = some (.int .i64 0) := g1.cell 1
        have y2 : w4.cell? ⟨w.heap.size + 1, 2, none⟩ = some (.int .i64 0) := g1.cell 2
        have y3 : w4.cell? ⟨w.heap.size + 1, 3, none⟩ = some (.int .i64 0) := g1.cell 3
        have y4 : w4.cell? ⟨w.heap.size + 1, 4, none⟩ = some (.int .i64 0) := g1.cell 4
        have y5 : w4.cell? ⟨w.heap.size + 1, 5, none⟩ = some (.int .i64 0) := g1.cell 5
        have f0 : w4.frozen? ⟨w.heap.size + 1, 0, none⟩ = false := g1.free 0
        have f1 : w4.frozen? ⟨w.heap.size + 1, 1, none⟩ = false := g1.free 1
        have f2 : w4.frozen? ⟨w.heap.size + 1, 2, none⟩ = false := g1.free 2
        have f3 : w4.frozen? ⟨w.heap.size + 1, 3, none⟩ = false := g1.free 3
        have f4 : w4.frozen? ⟨w.heap.size + 1, 4, none⟩ = false := g1.free 4
        have f5 : w4.frozen? ⟨w.heap.size + 1, 5, none⟩ = false := g1.free 5
        have q0 : w.heap.size < w4.heap.size := g0.lt
        have q1 : w.heap.size + 1 < w4.heap.size := g1.lt
        have G2 : Hid (Has w4 (w.heap.size + 1) 58 [.int .i64 0, .int .i64 0, .int .i64 0, .int .i64 0, .int .i64 0, .int .i64 0]) := g1
        have HB4 := Lib.hid hb1'
        clear hb1' g0 g1 hb4 hb6 hk4 D3 HK HB3
        have hne : w.heap.size + 1 ≠ w3.heap.size := by omega
        have hle : w.heap.size ≤ w3.heap.size := by omega
        have g6 := Lib.hid (((G2.out.far hne 4 (.int .i64 (-X))).far hne 5 (.int .i64 (-Y))).alloc (.cells #[.int .i64 X, .int .i64 Y] 25))
        have b6 := Lib.hid (bvia ((B4.out.setCell (p := ⟨w3.heap.size, 4, none⟩) hle (.int .i64 (-X))).setCell (p := ⟨w3.heap.size, 5, none⟩) hle (.int .i64 (-Y))) ((Below.refl _ ((w4.setCell ⟨w3.heap.size, 4, none⟩ (.int .i64 (-X))).setCell ⟨w3.heap.size, 5, none⟩ (.int .i64 (-Y)))).alloc (Nat.le_refl _) (.cells #[.int .i64 X, .int .i64 Y] 25)))
        clear G2 hne hle
        go_wp2_with fail
        refine (CV.out _).mono ?_
        rintro e w5 ⟨rfl, hb5⟩
        have g1 := g6.out.below hb5 g6.out.lt
        have B5 := Lib.hid (bvia b6.out hb5)
        clear x0 x1 x2 x3 x4 x5 y0 y1 y2 y3 y4 y5 f0 f1 f2 f3 f4 f5 q0 q1 k0 k1 k2 k3 k4 k5 kf0 kf1 kf2 kf3 kf4 kf5 kl
        have y0 : w5.cell? ⟨w.heap.size + 1, 0, none⟩ = some (.int .i64 0) := g1.cell 0
        have y1 : w5.cell? ⟨w.heap.size + 1, 1, none⟩ = some (.int .i64 0) := g1.cell 1
        have y2 : w5.cell? ⟨w.heap.size + 1, 2, none⟩ = some (.int .i64 0) := g1.cell 2
        have y3 : w5.cell? ⟨w.heap.size + 1, 3, none⟩ = some (.int .i64 0) := g1.cell 3
        have y4 : w5.cell? ⟨w.heap.size + 1, 4, none⟩ = some (.int .i64 0) := g1.cell 4
        have y5 : w5.cell? ⟨w.heap.size + 1, 5, none⟩ = some (.int .i64 0) := g1.cell 5
        have f0 : w5.frozen? ⟨w.heap.size + 1, 0, none⟩ = false := g1.free 0
        have f1 : w5.frozen? ⟨w.heap.size + 1, 1, none⟩ = false := g1.free 1
        have f2 : w5.frozen? ⟨w.heap.size + 1, 2, none⟩ = false := g1.free 2
        have f3 : w5.frozen? ⟨w.heap.size + 1, 3, none⟩ = false := g1.free 3
        have f4 : w5.frozen? ⟨w.heap.size + 1, 4, none⟩ = false := g1.free 4
        have f5 : w5.frozen? ⟨w.heap.size + 1, 5, none⟩ = false := g1.free 5
        have q1 : w.heap.size + 1 < w5.heap.size := g1.lt
        have G2 : Hid (Has w5 (w.heap.size + 1) 58 [.int .i64 0, .int .i64 0, .int .i64 0, .int .i64 0, .int .i64 0, .int .i64 0]) := g1
        clear hb5 g1 g6 b6 HB4 HK4
        go_wp2
        refine post_cell_tmp (g := w.heap.size + 1) (t := 58) (cs := [.int .i64 p, .int .i64 q, .int .i64 r, .int .i64 s, .int .i64 (-X), .int .i64 (-Y)]) (v := .int .i64 0) ?_ rfl rfl rfl rfl Try.underlying58 (by kernel_rfl) ⟨rfl, ?_⟩
        · exact ((((((G2.out.set 0 _).set 1 _).set 2 _).set 3 _).set 4 _).set 5 _)
        · exact ((((((B5.out.setCell (p := ⟨w.heap.size + 1, 0, none⟩) (show w.heap.size ≤ w.heap.size + 1 by omega) _).setCell (p := ⟨w.heap.size + 1, 1, none⟩) (show w.heap.size ≤ w.heap.size + 1 by omega) _).setCell (p := ⟨w.heap.size + 1, 2, none⟩) (show w.heap.size ≤ w.heap.size + 1 by omega) _).setCell (p := ⟨w.heap.size + 1, 3, none⟩) (show w.heap.size ≤ w.heap.size + 1 by omega) _).setCell (p := ⟨w.heap.size + 1, 4, none⟩) (show w.heap.size ≤ w.heap.size + 1 by omega) _).setCell (p := ⟨w.heap.size + 1, 5, none⟩) (show w.heap.size ≤ w.heap.size + 1 by omega) _)
    · cases hO : okV p q r s (-X) (-Y) with
      | false =>
        rw [hO] at CV
        rw [if_neg (by decide)]
        clear hO
        go_enter Try.func39, Try.ntmps39
        go_wp2_with fail
        refine (CM.out _).mono ?_
        rintro e w1 ⟨rfl, hb1⟩
        have B1 := Lib.hid (bvia B0.out hb1)
        have hb1' : Below (w.heap.size + 2) (boxW w [cV a b c d u v, cV 0 0 0 0 0 0]) w1 := by rw [← S0.out]; exact hb1
        clear hb1
        have g0 := F0.out w1 hb1' 0 _ rfl
        have g1 := F0.out w1 hb1' 1 _ rfl
        have x0 : w1.cell? ⟨w.heap.size, 0, none⟩ = some (.int .i64 a) := g0.cell 0
        have x1 : w1.cell? ⟨w.heap.size, 1, none⟩ = some (.int .i64 b) := g0.cell 1
        have x2 : w1.cell? ⟨w.heap.size, 2, none⟩ = some (.int .i64 c) := g0.cell 2
        have x3 : w1.cell? ⟨w.heap.size, 3, none⟩ = some (.int .i64 d) := g0.cell 3
        have x4 : w1.cell? ⟨w.heap.size, 4, none⟩ = some (.int .i64 u) := g0.cell 4
        have x5 : w1.cell? ⟨w.heap.size, 5, none⟩ = some (.int .i64 v) := g0.cell 5
        have y0 : w1.cell? ⟨w.heap.size + 1, 0, none⟩ = some (.int .i64 0) := g1.cell 0
        have y1 : w1.cell? ⟨w.heap.size + 1, 1, none⟩ = some (.int .i64 0) := g1.cell 1
        have y2 : w1.cell? ⟨w.heap.size + 1, 2, none⟩ = some (.int .i64 0) := g1.cell 2
        have y3 : w1.cell? ⟨w.heap.size + 1, 3, none⟩ = some (.int .i64 0) := g1.cell 3
        have y4 : w1.cell? ⟨w.heap.size + 1, 4, none⟩ = some (.int .i64 0) := g1.cell 4
        have y5 : w1.cell? ⟨w.heap.size + 1, 5, none⟩ = some (.int .i64 0) := g1.cell 5
        have f0 : w1.frozen? ⟨w.heap.size + 1, 0, none⟩ = false := g1.free 0
        have f1 : w1.frozen? ⟨w.heap.size + 1, 1, none⟩ = false := g1.free 1
        have f2 : w1.frozen? ⟨w.heap.size + 1, 2, none⟩ = false := g1.free 2
        have f3 : w1.frozen? ⟨w.heap.size + 1, 3, none⟩ = false := g1.free 3
        have f4 : w1.frozen? ⟨w.heap.size + 1, 4, none⟩ = false := g1.free 4
        have f5 : w1.frozen? ⟨w.heap.size + 1, 5, none⟩ = false := g1.free 5
        have q0 : w.heap.size < w1.heap.size := g0.lt
        have q1 : w.heap.size + 1 < w1.heap.size := g1.lt
        have G2 : Hid (Has w1 (w.heap.size + 1) 58 [.int .i64 0, .int .i64 0, .int .i64 0, .int .i64 0, .int .i64 0, .int .i64 0]) := g1
        have HB1 := Lib.hid hb1'
        clear hb1' g0 g1
        go_wp2_with fail
        refine (CD.out _).mono ?_
        rintro e w2 ⟨rfl, hb3⟩
        have z9 := HB1.out.size
        rw [S0.out] at z9
        have hb1' := HB1.out.trans (hb3.mono z9)
        have B2 := Lib.hid (bvia B1.out hb3)
        clear x0 x1 x2 x3 x4 x5 y0 y1 y2 y3 y4 y5 f0 f1 f2 f3 f4 f5 q0 q1 G2 z9 hb3
        have g0 := F0.out w2 hb1' 0 _ rfl
        have g1 := F0.out w2 hb1' 1 _ rfl
        have x0 : w2.cell? ⟨w.heap.size, 0, none⟩ = some (.int .i64 a) := g0.cell 0
        have x1 : w2.cell? ⟨w.heap.size, 1, none⟩ = some (.int .i64 b) := g0.cell 1
        have x2 : w2.cell? ⟨w.heap.size, 2, none⟩ = some (.int .i64 c) := g0.cell 2
        have x3 : w2.cell? ⟨w.heap.size, 3, none⟩ = some (.int .i64 d) := g0.cell 3
        have x4 : w2.cell? ⟨w.heap.size, 4, none⟩ = some (.int .i64 u) := g0.cell 4
        have x5 : w2.cell? ⟨w.heap.size, 5, none⟩ = some (.int .i64 v) := g0.cell 5
        have y0 : w2.cell? ⟨w.heap.size + 1, 0, none⟩ = some (.int .i64 0) := g1.cell 0
        have y1 : w2.cell? ⟨w.heap.size + 1, 1, none⟩ = some (.int .i64 0) := g1.cell 1
        have y2 : w2.cell? ⟨w.heap.size + 1, 2, none⟩ = some (.int .i64 0) := g1.cell 2
        have y3 : w2.cell? ⟨w.heap.size + 1, 3, none⟩ = some (.int .i64 0) := g1.cell 3
        have y4 : w2.cell? ⟨w.heap.size + 1, 4, none⟩ = some (.int .i64 0) := g1.cell 4
        have y5 : w2.cell? ⟨w.heap.size + 1, 5, none⟩ = some (.int .i64 0) := g1.cell 5
        have f0 : w2.frozen? ⟨w.heap.size + 1, 0, none⟩ = false := g1.free 0
        have f1 : w2.frozen? ⟨w.heap.size + 1, 1, none⟩ = false := g1.free 1
        have f2 : w2.frozen? ⟨w.heap.size + 1, 2, none⟩ = false := g1.free 2
        have f3 : w2.frozen? ⟨w.heap.size + 1, 3, none⟩ = false := g1.free 3
        have f4 : w2.frozen? ⟨w.heap.size + 1, 4, none⟩ = false := g1.free 4
        have f5 : w2.frozen? ⟨w.heap.size + 1, 5, none⟩ = false := g1.free 5
        have q0 : w.heap.size < w2.heap.size := g0.lt
        have q1 : w.heap.size + 1 < w2.heap.size := g1.lt
        have G2 : Hid (Has w2 (w.heap.size + 1) 58 [.int .i64 0, .int .i64 0, .int .i64 0, .int .i64 0, .int .i64 0, .int .i64 0]) := g1
        have HB2 := Lib.hid hb1'
        clear hb1' g0 g1
        go_wp2_with fail
        refine (CI.out _).mono ?_
        rintro e w3 ⟨rfl, hb3⟩
        have z9 := HB2.out.size
        rw [S0.out] at z9
        have hb1' := HB2.out.trans (hb3.mono z9)
        have B3 := Lib.hid (bvia B2.out hb3)
        clear x0 x1 x2 x3 x4 x5 y0 y1 y2 y3 y4 y5 f0 f1 f2 f3 f4 f5 q0 q1 G2 z9 hb3
        have g0 := F0.out w3 hb1' 0 _ rfl
        have g1 := F0.out w3 hb1' 1 _ rfl
        have x0 : w3.cell? ⟨w.heap.size, 0, none⟩ = some (.int .i64 a) := g0.cell 0
        have x1 : w3.cell? ⟨w.heap.size, 1, none⟩ = some (.int .i64 b) := g0.cell 1
        have x2 : w3.cell? ⟨w.heap.size, 2, none⟩ = some (.int .i64 c) := g0.cell 2
        have x3 : w3.cell? ⟨w.heap.size, 3, none⟩ = some (.int .i64 d) := g0.cell 3
        have x4 : w3.cell? ⟨w.heap.size, 4, none⟩ = some (.int .i64 u) := g0.cell 4
        have x5 : w3.cell? ⟨w.heap.size, 5, none⟩ = some (.int .i64 v) := g0.cell 5
        have y0 : w3.cell? ⟨w.heap.size + 1, 0, none⟩ = some (.int .i64 0) := g1.cell 0
        have y1 : w3.cell? ⟨w.heap.size + 1, 1, none⟩ = some (.int .i64 0) := g1.cell 1
        have y2 : w3.cell? ⟨w.heap.size + 1, 2, none⟩ = some (.int .i64 0) := g1.cell 2
        have y3 : w3.cell? ⟨w.heap.size + 1, 3, none⟩ = some (.int .i64 0) := g1.cell 3
        have y4 : w3.cell? ⟨w.heap.size + 1, 4, none⟩ = some (.int .i64 0) := g1.cell 4
        have y5 : w3.cell? ⟨w.heap.size + 1, 5, none⟩ = some (.int .i64 0) := g1.cell 5
        have f0 : w3.frozen? ⟨w.heap.size + 1, 0, none⟩ = false := g1.free 0
        have f1 : w3.frozen? ⟨w.heap.size + 1, 1, none⟩ = false := g1.free 1
        have f2 : w3.frozen? ⟨w.heap.size + 1, 2, none⟩ = false := g1.free 2
        have f3 : w3.frozen? ⟨w.heap.size + 1, 3, none⟩ = false := g1.free 3
        have f4 : w3.frozen? ⟨w.heap.size + 1, 4, none⟩ = false := g1.free 4
        have f5 : w3.frozen? ⟨w.heap.size + 1, 5, none⟩ = false := g1.free 5
        have q0 : w.heap.size < w3.heap.size := g0.lt
        have q1 : w.heap.size + 1 < w3.heap.size := g1.lt
        have G2 : Hid (Has w3 (w.heap.size + 1) 58 [.int .i64 0, .int .i64 0, .int .i64 0, .int .i64 0, .int .i64 0, .int .i64 0]) := g1
        have HB3 := Lib.hid hb1'
        have z8 := hb1'.size
        rw [S0.out] at z8
        have D3 := Lib.hid ((Below.refl w3.heap.size w3).alloc (Nat.le_refl _) (.cells #[.int .i64 p, .int .i64 q, .int .i64 r, .int .i64 s, .int .i64 0, .int .i64 0] 58))
        have hK : Has (w3.alloc (.cells #[.int .i64 p, .int .i64 q, .int .i64 r, .int .i64 s, .int .i64 0, .int .i64 0] 58)) w3.heap.size 58 [.int .i64 p, .int .i64 q, .int .i64 r, .int .i64 s, .int .i64 0, .int .i64 0] := Has.new rfl
        have HK := Lib.hid hK
        clear hb1' g0 g1 hK
        go_wp2_with fail
        refine (CG.out _).mono ?_
        rintro e w4 ⟨rfl, hb4⟩
        have hk4 := HK.out.below hb4 HK.out.lt
        have k0 : w4.cell? ⟨w3.heap.size, 0, none⟩ = some (.int .i64 p) := hk4.cell 0
        have k1 : w4.cell? ⟨w3.heap.size, 1, none⟩ = some (.int .i64 q) := hk4.cell 1
        have k2 : w4.cell? ⟨w3.heap.size, 2, none⟩ = some (.int .i64 r) := hk4.cell 2
        have k3 : w4.cell? ⟨w3.heap.size, 3, none⟩ = some (.int .i64 s) := hk4.cell 3
        have k4 : w4.cell? ⟨w3.heap.size, 4, none⟩ = some (.int .i64 0) := hk4.cell 4
        have k5 : w4.cell? ⟨w3.heap.size, 5, none⟩ = some (.int .i64 0) := hk4.cell 5
        have kf0 : w4.frozen? ⟨w3.heap.size, 0, none⟩ = false := hk4.free 0
        have kf1 : w4.frozen? ⟨w3.heap.size, 1, none⟩ = false := hk4.free 1
        have kf2 : w4.frozen? ⟨w3.heap.size, 2, none⟩ = false := hk4.free 2
        have kf3 : w4.frozen? ⟨w3.heap.size, 3, none⟩ = false := hk4.free 3
        have kf4 : w4.frozen? ⟨w3.heap.size, 4, none⟩ = false := hk4.free 4
        have kf5 : w4.frozen? ⟨w3.heap.size, 5, none⟩ = false := hk4.free 5
        have kl : w3.heap.size < w4.heap.size := hk4.lt
        have HK4 := Lib.hid hk4
        have hb6 := bvia D3.out hb4
        have hb1' := HB3.out.trans (hb6.mono z8)
        have B4 := Lib.hid (bvia B3.out hb6)
        clear x0 x1 x2 x3 x4 x5 y0 y1 y2 y3 y4 y5 f0 f1 f2 f3 f4 f5 q0 q1 G2
        have g0 := F0.out w4 hb1' 0 _ rfl
        have g1 := F0.out w4 hb1' 1 _ rfl
        have x0 : w4.cell? ⟨w.heap.size, 0, none⟩ = some (.int .i64 a) := g0.cell 0
        have x1 : w4.cell? ⟨w.heap.size, 1, none⟩ = some (.int .i64 b) := g0.cell 1
        have x2 : w4.cell? ⟨w.heap.size, 2, none⟩ = some (.int .i64 c) := g0.cell 2
        have x3 : w4.cell? ⟨w.heap.size, 3, none⟩ = some (.int .i64 d) := g0.cell 3
        have x4 : w4.cell? ⟨w.heap.size, 4, none⟩ = some (.int .i64 u) := g0.cell 4
        have x5 : w4.cell? ⟨w.heap.size, 5, none⟩ = some (.int .i64 v) := g0.cell 5
        have y0 : w4.cell? ⟨w.heap.size + 1, 0, none⟩ = some (.int .i64 0) := g1.cell 0
        have y1 : w4.cell? ⟨w.heap.size + 1, 1, none⟩ = some (.int .i64 0) := g1.cell 1
        have y2 : w4.cell? ⟨w.heap.size + 1, 2, none⟩ = some (.int .i64 0) := g1.cell 2
        have y3 : w4.cell? ⟨w.heap.size + 1, 3, none⟩ = some (.int .i64 0) := g1.cell 3
        have y4 : w4.cell? ⟨w.heap.size + 1, 4, none⟩ = some (.int .i64 0) := g1.cell 4
        have y5 : w4.cell? ⟨w.heap.size + 1, 5, none⟩ = some (.int .i64 0) := g1.cell 5
        have f0 : w4.frozen? ⟨w.heap.size + 1, 0, none⟩ = false := g1.free 0
        have f1 : w4.frozen? ⟨w.heap.size + 1, 1, none⟩ = false := g1.free 1
        have f2 : w4.frozen? ⟨w.heap.size + 1, 2, none⟩ = false := g1.free 2
        have f3 : w4.frozen? ⟨w.heap.size + 1, 3, none⟩ = false := g1.free 3
        have f4 : w4.frozen? ⟨w.heap.size + 1, 4, none⟩ = false := g1.free 4
        have f5 : w4.frozen? ⟨w.heap.size + 1, 5, none⟩ = false := g1.free 5
        have q0 : w.heap.size < w4.heap.size := g0.lt
        have q1 : w.heap.size + 1 < w4.heap.size := g1.lt
        have G2 : Hid (Has w4 (w.heap.size + 1) 58 [.int .i64 0, .int .i64 0, .int .i64 0, .int .i64 0, .int .i64 0, .int .i64 0]) := g1
        have HB4 := Lib.hid hb1'
        clear hb1' g0 g1 hb4 hb6 hk4 D3 HK HB3
        have hne : w.heap.size + 1 ≠ w3.heap.size := by omega
        have hle : w.heap.size ≤ w3.heap.size := by omega
        have g6 := Lib.hid (((G2.out.far hne 4 (.int .i64 (-X))).far hne 5 (.int .i64 (-Y))).alloc (.cells #[.int .i64 X, .int .i64 Y] 25))
        have b6 := Lib.hid (bvia ((B4.out.setCell (p := ⟨w3.heap.size, 4, none⟩) hle (.int .i64 (-X))).setCell (p := ⟨w3.heap.size, 5, none⟩) hle (.int .i64 (-Y))) ((Below.refl _ ((w4.setCell ⟨w3.heap.size, 4, none⟩ (.int .i64 (-X))).setCell ⟨w3.heap.size, 5, none⟩ (.int .i64 (-Y)))).alloc (Nat.le_refl _) (.cells #[.int .i64 X, .int .i64 Y] 25)))
        clear G2 hne hle
        go_wp2_with fail
        refine (CV.out _).mono ?_
        rintro e w5 ⟨rfl, hb5⟩
        have g1 := g6.out.below hb5 g6.out.lt
        have B5 := Lib.hid (bvia b6.out hb5)
        clear x0 x1 x2 x3 x4 x5 y0 y1 y2 y3 y4 y5 f0 f1 f2 f3 f4 f5 q0 q1 k0 k1 k2 k3 k4 k5 kf0 kf1 kf2 kf3 kf4 kf5 kl
        have y0 : w5.cell? ⟨w.heap.size + 1, 0, none⟩ = some (.int .i64 0) := g1.cell 0
        have y1 : w5.cell? ⟨w.heap.size + 1, 1, none⟩ = some (.int .i64 0) := g1.cell 1
        have y2 : w5.cell? ⟨w.heap.size + 1, 2, none⟩ = some (.int .i64 0) := g1.cell 2
        have y3 : w5.cell? ⟨w.heap.size + 1, 3, none⟩ = some (.int .i64 0) := g1.cell 3
        have y4 : w5.cell? ⟨w.heap.size + 1, 4, none⟩ = some (.int .i64 0) := g1.cell 4
        have y5 : w5.cell? ⟨w.heap.size + 1, 5, none⟩ = some (.int .i64 0) := g1.cell 5
        have f0 : w5.frozen? ⟨w.heap.size + 1, 0, none⟩ = false := g1.free 0
        have f1 : w5.frozen? ⟨w.heap.size + 1, 1, none⟩ = false := g1.free 1
        have f2 : w5.frozen? ⟨w.heap.size + 1, 2, none⟩ = false := g1.free 2
        have f3 : w5.frozen? ⟨w.heap.size + 1, 3, none⟩ = false := g1.free 3
        have f4 : w5.frozen? ⟨w.heap.size + 1, 4, none⟩ = false := g1.free 4
        have f5 : w5.frozen? ⟨w.heap.size + 1, 5, none⟩ = false := g1.free 5
        have q1 : w.heap.size + 1 < w5.heap.size := g1.lt
        have G2 : Hid (Has w5 (w.heap.size + 1) 58 [.int .i64 0, .int .i64 0, .int .i64 0, .int .i64 0, .int .i64 0, .int .i64 0]) := g1
        clear hb5 g1 g6 b6 HB4 HK4
        go_wp2
        refine post_cell_tmp (g := w.heap.size + 1) (t := 58) (cs := [.int .i64 0, .int .i64 0, .int .i64 0, .int .i64 0, .int .i64 0, .int .i64 0]) (v := .int .i64 7) ?_ rfl rfl rfl rfl Try.underlying58 (by kernel_rfl) ⟨rfl, ?_⟩
        · exact ((((((G2.out.set 0 _).set 1 _).set 2 _).set 3 _).set 4 _).set 5 _)
        · exact ((((((B5.out.setCell (p := ⟨w.heap.size + 1, 0, none⟩) (show w.heap.size ≤ w.heap.size + 1 by omega) _).setCell (p := ⟨w.heap.size + 1, 1, none⟩) (show w.heap.size ≤ w.heap.size + 1 by omega) _).setCell (p := ⟨w.heap.size + 1, 2, none⟩) (show w.heap.size ≤ w.heap.size + 1 by omega) _).setCell (p := ⟨w.heap.size + 1, 3, none⟩) (show w.heap.size ≤ w.heap.size + 1 by omega) _).setCell (p := ⟨w.heap.size + 1, 4, none⟩) (show w.heap.size ≤ w.heap.size + 1 by omega) _).setCell (p := ⟨w.heap.size + 1, 5, none⟩) (show w.heap.size ≤ w.heap.size + 1 by omega) _)
      | true =>
        rw [hO] at CV
        rw [if_pos rfl, if_pos rfl] at CV
        rw [if_pos rfl]
        clear hO
        go_enter Try.func39, Try.ntmps39
        go_wp2_with fail
        refine (CM.out _).mono ?_
        rintro e w1 ⟨rfl, hb1⟩
        have B1 := Lib.hid (bvia B0.out hb1)
        have hb1' : Below (w.heap.size + 2) (boxW w [cV a b c d u v, cV 0 0 0 0 0 0]) w1 := by rw [← S0.out]; exact hb1
        clear hb1
        have g0 := F0.out w1 hb1' 0 _ rfl
        have g1 := F0.out w1 hb1' 1 _ rfl
        have x0 : w1.cell? ⟨w.heap.size, 0, none⟩ = some (.int .i64 a) := g0.cell 0
        have x1 : w1.cell? ⟨w.heap.size, 1, none⟩ = some (.int .i64 b) := g0.cell 1
        have x2 : w1.cell? ⟨w.heap.size, 2, none⟩ = some (.int .i64 c) := g0.cell 2
        have x3 : w1.cell? ⟨w.heap.size, 3, none⟩ = some (.int .i64 d) := g0.cell 3
        have x4 : w1.cell? ⟨w.heap.size, 4, none⟩ = some (.int .i64 u) := g0.cell 4
        have x5 : w1.cell? ⟨w.heap.size, 5, none⟩ = some (.int .i64 v) := g0.cell 5
        have y0 : w1.cell? ⟨w.heap.size + 1, 0, none⟩ = some (.int .i64 0) := g1.cell 0
        have y1 : w1.cell? ⟨w.heap.size + 1, 1, none⟩ = some (.int .i64 0) := g1.cell 1
        have y2 : w1.cell? ⟨w.heap.size + 1, 2, none⟩ = some (.int .i64 0) := g1.cell 2
        have y3 : w1.cell? ⟨w.heap.size + 1, 3, none⟩ = some (.int .i64 0) := g1.cell 3
        have y4 : w1.cell? ⟨w.heap.size + 1, 4, none⟩ = some (.int .i64 0) := g1.cell 4
        have y5 : w1.cell? ⟨w.heap.size + 1, 5, none⟩ = some (.int .i64 0) := g1.cell 5
        have f0 : w1.frozen? ⟨w.heap.size + 1, 0, none⟩ = false := g1.free 0
        have f1 : w1.frozen? ⟨w.heap.size + 1, 1, none⟩ = false := g1.free 1
        have f2 : w1.frozen? ⟨w.heap.size + 1, 2, none⟩ = false := g1.free 2
        have f3 : w1.frozen? ⟨w.heap.size + 1, 3, none⟩ = false := g1.free 3
        have f4 : w1.frozen? ⟨w.heap.size + 1, 4, none⟩ = false := g1.free 4
        have f5 : w1.frozen? ⟨w.heap.size + 1, 5, none⟩ = false := g1.free 5
        have q0 : w.heap.size < w1.heap.size := g0.lt
        have q1 : w.heap.size + 1 < w1.heap.size := g1.lt
        have G2 : Hid (Has w1 (w.heap.size + 1) 58 [.int .i64 0, .int .i64 0, .int .i64 0, .int .i64 0, .int .i64 0, .int .i64 0]) := g1
        have HB1 := Lib.hid hb1'
        clear hb1' g0 g1
        go_wp2_with fail
        refine (CD.out _).mono ?_
        rintro e w2 ⟨rfl, hb3⟩
        have z9 := HB1.out.size
        rw [S0.out] at z9
        have hb1' := HB1.out.trans (hb3.mono z9)
        have B2 := Lib.hid (bvia B1.out hb3)
        clear x0 x1 x2 x3 x4 x5 y0 y1 y2 y3 y4 y5 f0 f1 f2 f3 f4 f5 q0 q1 G2 z9 hb3
        have g0 := F0.out w2 hb1' 0 _ rfl
        have g1 := F0.out w2 hb1' 1 _ rfl
        have x0 : w2.cell? ⟨w.heap.size, 0, none⟩ = some (.int .i64 a) := g0.cell 0
        have x1 : w2.cell? ⟨w.heap.size, 1, none⟩ = some (.int .i64 b) := g0.cell 1
        have x2 : w2.cell? ⟨w.heap.size, 2, none⟩ = some (.int .i64 c) := g0.cell 2
        have x3 : w2.cell? ⟨w.heap.size, 3, none⟩ = some (.int .i64 d) := g0.cell 3
        have x4 : w2.cell? ⟨w.heap.size, 4, none⟩ = some (.int .i64 u) := g0.cell 4
        have x5 : w2.cell? ⟨w.heap.size, 5, none⟩ = some (.int .i64 v) := g0.cell 5
        have y0 : w2.cell? ⟨w.heap.size + 1, 0, none⟩ = some (.int .i64 0) := g1.cell 0
        have y1 : w2.cell? ⟨w.heap.size + 1, 1, none⟩ = some (.int .i64 0) := g1.cell 1
        have y2 : w2.cell? ⟨w.heap.size + 1, 2, none⟩ = some (.int .i64 0) := g1.cell 2
        have y3 : w2.cell? ⟨w.heap.size + 1, 3, none⟩ = some (.int .i64 0) := g1.cell 3
        have y4 : w2.cell? ⟨w.heap.size + 1, 4, none⟩ = some (.int .i64 0) := g1.cell 4
        have y5 : w2.cell? ⟨w.heap.size + 1, 5, none⟩ = some (.int .i64 0) := g1.cell 5
        have f0 : w2.frozen? ⟨w.heap.size + 1, 0, none⟩ = false := g1.free 0
        have f1 : w2.frozen? ⟨w.heap.size + 1, 1, none⟩ = false := g1.free 1
        have f2 : w2.frozen? ⟨w.heap.size + 1, 2, none⟩ = false := g1.free 2
        have f3 : w2.frozen? ⟨w.heap.size + 1, 3, none⟩ = false := g1.free 3
        have f4 : w2.frozen? ⟨w.heap.size + 1, 4, none⟩ = false := g1.free 4
        have f5 : w2.frozen? ⟨w.heap.size + 1, 5, none⟩ = false := g1.free 5
        have q0 : w.heap.size < w2.heap.size := g0.lt
        have q1 : w.heap.size + 1 < w2.heap.size := g1.lt
        have G2 : Hid (Has w2 (w.heap.size + 1) 58 [.int .i64 0, .int .i64 0, .int .i64 0, .int .i64 0, .int .i64 0, .int .i64 0]) := g1
        have HB2 := Lib.hid hb1'
        clear hb1' g0 g1
        go_wp2_with fail
        refine (CI.out _).mono ?_
        rintro e w3 ⟨rfl, hb3⟩
        have z9 := HB2.out.size
        rw [S0.out] at z9
        have hb1' := HB2.out.trans (hb3.mono z9)
        have B3 := Lib.hid (bvia B2.out hb3)
        clear x0 x1 x2 x3 x4 x5 y0 y1 y2 y3 y4 y5 f0 f1 f2 f3 f4 f5 q0 q1 G2 z9 hb3
        have g0 := F0.out w3 hb1' 0 _ rfl
        have g1 := F0.out w3 hb1' 1 _ rfl
        have x0 : w3.cell? ⟨w.heap.size, 0, none⟩ = some (.int .i64 a) := g0.cell 0
        have x1 : w3.cell? ⟨w.heap.size, 1, none⟩ = some (.int .i64 b) := g0.cell 1
        have x2 : w3.cell? ⟨w.heap.size, 2, none⟩ = some (.int .i64 c) := g0.cell 2
        have x3 : w3.cell? ⟨w.heap.size, 3, none⟩ = some (.int .i64 d) := g0.cell 3
        have x4 : w3.cell? ⟨w.heap.size, 4, none⟩ = some (.int .i64 u) := g0.cell 4
        have x5 : w3.cell? ⟨w.heap.size, 5, none⟩ = some (.int .i64 v) := g0.cell 5
        have y0 : w3.cell? ⟨w.heap.size + 1, 0, none⟩ = some (.int .i64 0) := g1.cell 0
        have y1 : w3.cell? ⟨w.heap.size + 1, 1, none⟩ = some (.int .i64 0) := g1.cell 1
        have y2 : w3.cell? ⟨w.heap.size + 1, 2, none⟩ = some (.int .i64 0) := g1.cell 2
        have y3 : w3.cell? ⟨w.heap.size + 1, 3, none⟩ = some (.int .i64 0) := g1.cell 3
        have y4 : w3.cell? ⟨w.heap.size + 1, 4, none⟩ = some (.int .i64 0) := g1.cell 4
        have y5 : w3.cell? ⟨w.heap.size + 1, 5, none⟩ = some (.int .i64 0) := g1.cell 5
        have f0 : w3.frozen? ⟨w.heap.size + 1, 0, none⟩ = false := g1.free 0
        have f1 : w3.frozen? ⟨w.heap.size + 1, 1, none⟩ = false := g1.free 1
        have f2 : w3.frozen? ⟨w.heap.size + 1, 2, none⟩ = false := g1.free 2
        have f3 : w3.frozen? ⟨w.heap.size + 1, 3, none⟩ = false := g1.free 3
        have f4 : w3.frozen? ⟨w.heap.size + 1, 4, none⟩ = false := g1.free 4
        have f5 : w3.frozen? ⟨w.heap.size + 1, 5, none⟩ = false := g1.free 5
        have q0 : w.heap.size < w3.heap.size := g0.lt
        have q1 : w.heap.size + 1 < w3.heap.size := g1.lt
        have G2 : Hid (Has w3 (w.heap.size + 1) 58 [.int .i64 0, .int .i64 0, .int .i64 0, .int .i64 0, .int .i64 0, .int .i64 0]) := g1
        have HB3 := Lib.hid hb1'
        have z8 := hb1'.size
        rw [S0.out] at z8
        have D3 := Lib.hid ((Below.refl w3.heap.size w3).alloc (Nat.le_refl _) (.cells #[.int .i64 p, .int .i64 q, .int .i64 r, .int .i64 s, .int .i64 0, .int .i64 0] 58))
        have hK : Has (w3.alloc (.cells #[.int .i64 p, .int .i64 q, .int .i64 r, .int .i64 s, .int .i64 0, .int .i64 0] 58)) w3.heap.size 58 [.int .i64 p, .int .i64 q, .int .i64 r, .int .i64 s, .int .i64 0, .int .i64 0] := Has.new rfl
        have HK := Lib.hid hK
        clear hb1' g0 g1 hK
        go_wp2_with fail
        refine (CG.out _).mono ?_
        rintro e w4 ⟨rfl, hb4⟩
        have hk4 := HK.out.below hb4 HK.out.lt
        have k0 : w4.cell? ⟨w3.heap.size, 0, none⟩ = some (.int .i64 p) := hk4.cell 0
        have k1 : w4.cell? ⟨w3.heap.size, 1, none⟩ = some (.int .i64 q) := hk4.cell 1
        have k2 : w4.cell? ⟨w3.heap.size, 2, none⟩ = some (.int .i64 r) := hk4.cell 2
        have k3 : w4.cell? ⟨w3.heap.size, 3, none⟩ = some (.int .i64 s) := hk4.cell 3
        have k4 : w4.cell? ⟨w3.heap.size, 4, none⟩ = some (.int .i64 0) := hk4.cell 4
        have k5 : w4.cell? ⟨w3.heap.size, 5, none⟩ = some (.int .i64 0) := hk4.cell 5
        have kf0 : w4.frozen? ⟨w3.heap.size, 0, none⟩ = false := hk4.free 0
        have kf1 : w4.frozen? ⟨w3.heap.size, 1, none⟩ = false := hk4.free 1
        have kf2 : w4.frozen? ⟨w3.heap.size, 2, none⟩ = false := hk4.free 2
        have kf3 : w4.frozen? ⟨w3.heap.size, 3, none⟩ = false := hk4.free 3
        have kf4 : w4.frozen? ⟨w3.heap.size, 4, none⟩ = false := hk4.free 4
        have kf5 : w4.frozen? ⟨w3.heap.size, 5, none⟩ = false := hk4.free 5
        have kl : w3.heap.size < w4.heap.size := hk4.lt
        have HK4 := Lib.hid hk4
        have hb6 := bvia D3.out hb4
        have hb1' := HB3.out.trans (hb6.mono z8)
        have B4 := Lib.hid (bvia B3.out hb6)
        clear x0 x1 x2 x3 x4 x5 y0 y1 y2 y3 y4 y5 f0 f1 f2 f3 f4 f5 q0 q1 G2
        have g0 := F0.out w4 hb1' 0 _ rfl
        have g1 := F0.out w4 hb1' 1 _ rfl
        have x0 : w4.cell? ⟨w.heap.size, 0, none⟩ = some (.int .i64 a) := g0.cell 0
        have x1 : w4.cell? ⟨w.heap.size, 1, none⟩ = some (.int .i64 b) := g0.cell 1
        have x2 : w4.cell? ⟨w.heap.size, 2, none⟩ = some (.int .i64 c) := g0.cell 2
        have x3 : w4.cell? ⟨w.heap.size, 3, none⟩ = some (.int .i64 d) := g0.cell 3
        have x4 : w4.cell? ⟨w.heap.size, 4, none⟩ = some (.int .i64 u) := g0.cell 4
        have x5 : w4.cell? ⟨w.heap.size, 5, none⟩ = some (.int .i64 v) := g0.cell 5
        have y0 : w4.cell? ⟨w.heap.size + 1, 0, none⟩ = some (.int .i64 0) := g1.cell 0
        have y1 : w4.cell? ⟨w.heap.size + 1, 1, none⟩ = some (.int .i64 0) := g1.cell 1
        have y2 : w4.cell? ⟨w.heap.size + 1, 2, none⟩ = some (.int .i64 0) := g1.cell 2
        have y3 : w4.cell? ⟨w.heap.size + 1, 3, none⟩ = some (.int .i64 0) := g1.cell 3
        have y4 : w4.cell? ⟨w.heap.size + 1, 4, none⟩ = some (.int .i64 0) := g1.cell 4
        have y5 : w4.cell? ⟨w.heap.size + 1, 5, none⟩ = some (.int .i64 0) := g1.cell 5
        have f0 : w4.frozen? ⟨w.heap.size + 1, 0, none⟩ = false := g1.free 0
        have f1 : w4.frozen? ⟨w.heap.size + 1, 1, none⟩ = false := g1.free 1
        have f2 : w4.frozen? ⟨w.heap.size + 1, 2, none⟩ = false := g1.free 2
        have f3 : w4.frozen? ⟨w.heap.size + 1, 3, none⟩ = false := g1.free 3
        have f4 : w4.frozen? ⟨w.heap.size + 1, 4, none⟩ = false := g1.free 4
        have f5 : w4.frozen? ⟨w.heap.size + 1, 5, none⟩ = false := g1.free 5
        have q0 : w.heap.size < w4.heap.size := g0.lt
        have q1 : w.heap.size + 1 < w4.heap.size := g1.lt
        have G2 : Hid (Has w4 (w.heap.size + 1) 58 [.int .i64 0, .int .i64 0, .int .i64 0, .int .i64 0, .int .i64 0, .int .i64 0]) := g1
        have HB4 := Lib.hid hb1'
        clear hb1' g0 g1 hb4 hb6 hk4 D3 HK HB3
        have hne : w.heap.size + 1 ≠ w3.heap.size := by omega
        have hle : w.heap.size ≤ w3.heap.size := by omega
        have g6 := Lib.hid (((G2.out.far hne 4 (.int .i64 (-X))).far hne 5 (.int .i64 (-Y))).alloc (.cells #[.int .i64 X, .int .i64 Y] 25))
        have b6 := Lib.hid (bvia ((B4.out.setCell (p := ⟨w3.heap.size, 4, none⟩) hle (.int .i64 (-X))).setCell (p := ⟨w3.heap.size, 5, none⟩) hle (.int .i64 (-Y))) ((Below.refl _ ((w4.setCell ⟨w3.heap.size, 4, none⟩ (.int .i64 (-X))).setCell ⟨w3.heap.size, 5, none⟩ (.int .i64 (-Y)))).alloc (Nat.le_refl _) (.cells #[.int .i64 X, .int .i64 Y] 25)))
        clear G2 hne hle
        go_wp2_with fail
        refine (CV.out _).mono ?_
        rintro e w5 ⟨rfl, hb5⟩
        have g1 := g6.out.below hb5 g6.out.lt
        have B5 := Lib.hid (bvia b6.out hb5)
        clear x0 x1 x2 x3 x4 x5 y0 y1 y2 y3 y4 y5 f0 f1 f2 f3 f4 f5 q0 q1 k0 k1 k2 k3 k4 k5 kf0 kf1 kf2 kf3 kf4 kf5 kl
        have y0 : w5.cell? ⟨w.heap.size + 1, 0, none⟩ = some (.int .i64 0) := g1.cell 0
        have y1 : w5.cell? ⟨w.heap.size + 1, 1, none⟩ = some (.int .i64 0) := g1.cell 1
        have y2 : w5.cell? ⟨w.heap.size + 1, 2, none⟩ = some (.int .i64 0) := g1.cell 2
        have y3 : w5.cell? ⟨w.heap.size + 1, 3, none⟩ = some (.int .i64 0) := g1.cell 3
        have y4 : w5.cell? ⟨w.heap.size + 1, 4, none⟩ = some (.int .i64 0) := g1.cell 4
        have y5 : w5.cell? ⟨w.heap.size + 1, 5, none⟩ = some (.int .i64 0) := g1.cell 5
        have f0 : w5.frozen? ⟨w.heap.size + 1, 0, none⟩ = false := g1.free 0
        have f1 : w5.frozen? ⟨w.heap.size + 1, 1, none⟩ = false := g1.free 1
        have f2 : w5.frozen? ⟨w.heap.size + 1, 2, none⟩ = false := g1.free 2
        have f3 : w5.frozen? ⟨w.heap.size + 1, 3, none⟩ = false := g1.free 3
        have f4 : w5.frozen? ⟨w.heap.size + 1, 4, none⟩ = false := g1.free 4
        have f5 : w5.frozen? ⟨w.heap.size + 1, 5, none⟩ = false := g1.free 5
        have q1 : w.heap.size + 1 < w5.heap.size := g1.lt
        have G2 : Hid (Has w5 (w.heap.size + 1) 58 [.int .i64 0, .int .i64 0, .int .i64 0, .int .i64 0, .int .i64 0, .int .i64 0]) := g1
        clear hb5 g1 g6 b6 HB4 HK4
        go_wp2
        refine post_cell_tmp (g := w.heap.size + 1) (t := 58) (cs := [.int .i64 p, .int .i64 q, .int .i64 r, .int .i64 s, .int .i64 (-X), .int .i64 (-Y)]) (v := .int .i64 0) ?_ rfl rfl rfl rfl Try.underlying58 (by kernel_rfl) ⟨rfl, ?_⟩
        · exact ((((((G2.out.set 0 _).set 1 _).set 2 _).set 3 _).set 4 _).set 5 _)
        · exact ((((((B5.out.setCell (p := ⟨w.heap.size + 1, 0, none⟩) (show w.heap.size ≤ w.heap.size + 1 by omega) _).setCell (p := ⟨w.heap.size + 1, 1, none⟩) (show w.heap.size ≤ w.heap.size + 1 by omega) _).setCell (p := ⟨w.heap.size + 1, 2, none⟩) (show w.heap.size ≤ w.heap.size + 1 by omega) _).setCell (p := ⟨w.heap.size + 1, 3, none⟩) (show w.heap.size ≤ w.heap.size + 1 by omega) _).setCell (p := ⟨w.heap.size + 1, 4, none⟩) (show w.heap.size ≤ w.heap.size + 1 by omega) _).setCell (p := ⟨w.heap.size + 1, 5, none⟩) (show w.heap.size ≤ w.heap.size + 1 by omega) _)
end Go.Proofs.Ytmghpaibdgkbfaa
