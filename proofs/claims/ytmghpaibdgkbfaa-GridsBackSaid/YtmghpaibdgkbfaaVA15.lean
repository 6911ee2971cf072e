/-
  Contract of chapter 6: Invert, the document's.
-/
import Derived.Test.YtmghpaibdgkbfaaVA4
import Derived.Test.YtmghpaibdgkbfaaVA12
import Derived.Test.YtmghpaibdgkbfaaVA14
import Derived.Deep.CutRange
namespace Go.Proofs.Ytmghpaibdgkbfaa
open Go.RowKit
set_option maxRecDepth 100000 in
set_option maxHeartbeats 4000000 in
theorem rinvertC (a b c d u v : Int) (w : World) : Calls Try.prog 40 #[vV a b c d u v] w fun e w' => e = .returned (.tuple #[(invR a b c d u v).1, .int .i64 (invR a b c d u v).2]) ∧ Below w.heap.size w w' := by
  have CM := Lib.hid (fun W => rmoveC a b c d u v W)
  unfold invR
  cases hV : okV a b c d u v with
  | false =>
    rw [hV] at CM
    rw [if_neg (by decide)]
    clear hV
    have G0 : Hid (Has (boxW w [([.int .i64 a, .int .i64 b, .int .i64 c, .int .i64 d, .int .i64 u, .int .i64 v], 58), ([.int .i64 0, .int .i64 0, .int .i64 0, .int .i64 0, .int .i64 0, .int .i64 0], 58)]) (w.heap.size) 58 [.int .i64 a, .int .i64 b, .int .i64 c, .int .i64 d, .int .i64 u, .int .i64 v]) := box_has [([.int .i64 a, .int .i64 b, .int .i64 c, .int .i64 d, .int .i64 u, .int .i64 v], 58), ([.int .i64 0, .int .i64 0, .int .i64 0, .int .i64 0, .int .i64 0, .int .i64 0], 58)] (w := w) (Below.refl _ _) (i := 0) rfl
    have G1 : Hid (Has (boxW w [([.int .i64 a, .int .i64 b, .int .i64 c, .int .i64 d, .int .i64 u, .int .i64 v], 58), ([.int .i64 0, .int .i64 0, .int .i64 0, .int .i64 0, .int .i64 0, .int .i64 0], 58)]) (w.heap.size + 1) 58 [.int .i64 0, .int .i64 0, .int .i64 0, .int .i64 0, .int .i64 0, .int .i64 0]) := box_has [([.int .i64 a, .int .i64 b, .int .i64 c, .int .i64 d, .int .i64 u, .int .i64 v], 58), ([.int .i64 0, .int .i64 0, .int .i64 0, .int .i64 0, .int .i64 0, .int .i64 0], 58)] (w := w) (Below.refl _ _) (i := 1) rfl
    have B := Lib.hid (boxW_below [([.int .i64 a, .int .i64 b, .int .i64 c, .int .i64 d, .int .i64 u, .int .i64 v], 58), ([.int .i64 0, .int .i64 0, .int .i64 0, .int .i64 0, .int .i64 0, .int .i64 0], 58)] w)
    obtain ⟨W1, hW1⟩ : ∃ W1, W1 = boxW w [([.int .i64 a, .int .i64 b, .int .i64 c, .int .i64 d, .int .i64 u, .int .i64 v], 58), ([.int .i64 0, .int .i64 0, .int .i64 0, .int .i64 0, .int .i64 0, .int .i64 0], 58)] := ⟨_, rfl⟩
    rw [← hW1] at G0 G1 B
    go_enter Try.func40, Try.ntmps40
    go_upto_region 1 with (fail)
    rw [show (w.alloc (.cells #[.int .i64 a, .int .i64 b, .int .i64 c, .int .i64 d, .int .i64 u, .int .i64 v] 58)).alloc (.cells #[.int .i64 0, .int .i64 0, .int .i64 0, .int .i64 0, .int .i64 0, .int .i64 0] 58) = W1 from hW1.symm]
    clear hW1
    have cG00 : W1.cell? ⟨w.heap.size, 0, none⟩ = some (.int .i64 a) := G0.out.cell 0
    have cG01 : W1.cell? ⟨w.heap.size, 1, none⟩ = some (.int .i64 b) := G0.out.cell 1
    have cG02 : W1.cell? ⟨w.heap.size, 2, none⟩ = some (.int .i64 c) := G0.out.cell 2
    have cG03 : W1.cell? ⟨w.heap.size, 3, none⟩ = some (.int .i64 d) := G0.out.cell 3
    have cG04 : W1.cell? ⟨w.heap.size, 4, none⟩ = some (.int .i64 u) := G0.out.cell 4
    have cG05 : W1.cell? ⟨w.heap.size, 5, none⟩ = some (.int .i64 v) := G0.out.cell 5
    have cG10 : W1.cell? ⟨w.heap.size + 1, 0, none⟩ = some (.int .i64 0) := G1.out.cell 0
    have cG11 : W1.cell? ⟨w.heap.size + 1, 1, none⟩ = some (.int .i64 0) := G1.out.cell 1
    have cG12 : W1.cell? ⟨w.heap.size + 1, 2, none⟩ = some (.int .i64 0) := G1.out.cell 2
    have cG13 : W1.cell? ⟨w.heap.size + 1, 3, none⟩ = some (.int .i64 0) := G1.out.cell 3
    have cG14 : W1.cell? ⟨w.heap.size + 1, 4, none⟩ = some (.int .i64 0) := G1.out.cell 4
    have cG15 : W1.cell? ⟨w.heap.size + 1, 5, none⟩ = some (.int .i64 0) := G1.out.cell 5
    go_wp2_with fail
    refine (CM.out _).mono ?_
    rintro e w1 ⟨rfl, hb1⟩
    clear cG00 cG01 cG02 cG03 cG04 cG05 cG10 cG11 cG12 cG13 cG14 cG15
    replace G0 := Lib.hid (G0.out.below hb1 G0.out.lt)
    replace G1 := Lib.hid (G1.out.below hb1 G1.out.lt)
    replace B := Lib.hid (bvia B.out hb1)
    clear hb1
    have cG10 : w1.cell? ⟨w.heap.size + 1, 0, none⟩ = some (.int .i64 0) := G1.out.cell 0
    have fG10 : w1.frozen? ⟨w.heap.size + 1, 0, none⟩ = false := G1.out.free 0
    have cG11 : w1.cell? ⟨w.heap.size + 1, 1, none⟩ = some (.int .i64 0) := G1.out.cell 1
    have fG11 : w1.frozen? ⟨w.heap.size + 1, 1, none⟩ = false := G1.out.free 1
    have cG12 : w1.cell? ⟨w.heap.size + 1, 2, none⟩ = some (.int .i64 0) := G1.out.cell 2
    have fG12 : w1.frozen? ⟨w.heap.size + 1, 2, none⟩ = false := G1.out.free 2
    have cG13 : w1.cell? ⟨w.heap.size + 1, 3, none⟩ = some (.int .i64 0) := G1.out.cell 3
    have fG13 : w1.frozen? ⟨w.heap.size + 1, 3, none⟩ = false := G1.out.free 3
    have cG14 : w1.cell? ⟨w.heap.size + 1, 4, none⟩ = some (.int .i64 0) := G1.out.cell 4
    have fG14 : w1.frozen? ⟨w.heap.size + 1, 4, none⟩ = false := G1.out.free 4
    have cG15 : w1.cell? ⟨w.heap.size + 1, 5, none⟩ = some (.int .i64 0) := G1.out.cell 5
    have fG15 : w1.frozen? ⟨w.heap.size + 1, 5, none⟩ = false := G1.out.free 5
    go_wp2
    refine post_cell_tmp (g := w.heap.size + 1) (t := 58) (cs := [.int .i64 0, .int .i64 0, .int .i64 0, .int .i64 0, .int .i64 0, .int .i64 0]) (v := .int .i64 2) ?_ Try.results40 rfl rfl rfl Try.underlying58 (by kernel_rfl) ⟨rfl, ?_⟩
    · exact ((((((G1.out.set 0 _).set 1 _).set 2 _).set 3 _).set 4 _).set 5 _)
    · exact ((((((B.out.setCell (p := ⟨w.heap.size + 1, 0, none⟩) (show w.heap.size ≤ w.heap.size + 1 by omega) _).setCell (p := ⟨w.heap.size + 1, 1, none⟩) (show w.heap.size ≤ w.heap.size + 1 by omega) _).setCell (p := ⟨w.heap.size + 1, 2, none⟩) (show w.heap.size ≤ w.heap.size + 1 by omega) _).setCell (p := ⟨w.heap.size + 1, 3, none⟩) (show w.heap.size ≤ w.heap.size + 1 by omega) _).setCell (p := ⟨w.heap.size + 1, 4, none⟩) (show w.heap.size ≤ w.heap.size + 1 by omega) _).setCell (p := ⟨w.heap.size + 1, 5, none⟩) (show w.heap.size ≤ w.heap.size + 1 by omega) _)
  | true =>
    rw [hV] at CM
    rw [if_pos rfl]
    obtain ⟨⟨ha, hb, hc, hd⟩, hu, hv⟩ := (okV_iff a b c d u v).1 hV
    have w1 := mb 10000 10000 100000000 ha hd (by decide)
    have w2 := mb 10000 10000 100000000 hb hc (by decide)
    have e1 : IntKind.i64.wrap (a * d) = a * d := IntWalk.i64_in _ (by omega)
    have e2 : IntKind.i64.wrap (b * c) = b * c := IntWalk.i64_in _ (by omega)
    have e3 : IntKind.i64.wrap (a * d - b * c) = a * d - b * c := IntWalk.i64_in _ (by omega)
    clear w1 w2
    by_cases hD : a * d - b * c = 1 ∨ a * d - b * c = -1
    case neg =>
      rw [if_neg hD]
      obtain ⟨E, hE⟩ : ∃ E, E = a * d - b * c := ⟨_, rfl⟩
      have HE := Lib.hid hE
      rw [← hE] at hD
      have j1 : (E != 1) = true := bne_iff_ne.2 (fun h => hD (.inl h))
      have j2 : (E != -1) = true := bne_iff_ne.2 (fun h => hD (.inr h))
      clear hE hD hV ha hb hc hd hu hv
      have G0 : Hid (Has (boxW w [([.int .i64 a, .int .i64 b, .int .i64 c, .int .i64 d, .int .i64 u, .int .i64 v], 58), ([.int .i64 0, .int .i64 0, .int .i64 0, .int .i64 0, .int .i64 0, .int .i64 0], 58)]) (w.heap.size) 58 [.int .i64 a, .int .i64 b, .int .i64 c, .int .i64 d, .int .i64 u, .int .i64 v]) := box_has [([.int .i64 a, .int .i64 b, .int .i64 c, .int .i64 d, .int .i64 u, .int .i64 v], 58), ([.int .i64 0, .int .i64 0, .int .i64 0, .int .i64 0, .int .i64 0, .int .i64 0], 58)] (w := w) (Below.refl _ _) (i := 0) rfl
      have G1 : Hid (Has (boxW w [([.int .i64 a, .int .i64 b, .int .i64 c, .int .i64 d, .int .i64 u, .int .i64 v], 58), ([.int .i64 0, .int .i64 0, .int .i64 0, .int .i64 0, .int .i64 0, .int .i64 0], 58)]) (w.heap.size + 1) 58 [.int .i64 0, .int .i64 0, .int .i64 0, .int .i64 0, .int .i64 0, .int .i64 0]) := box_has [([.int .i64 a, .int .i64 b, .int .i64 c, .int .i64 d, .int .i64 u, .int .i64 v], 58), ([.int .i64 0, .int .i64 0, .int .i64 0, .int .i64 0, .int .i64 0, .int .i64 0], 58)] (w := w) (Below.refl _ _) (i := 1) rfl
      have B := Lib.hid (boxW_below [([.int .i64 a, .int .i64 b, .int .i64 c, .int .i64 d, .int .i64 u, .int .i64 v], 58), ([.int .i64 0, .int .i64 0, .int .i64 0, .int .i64 0, .int .i64 0, .int .i64 0], 58)] w)
      obtain ⟨W1, hW1⟩ : ∃ W1, W1 = boxW w [([.int .i64 a, .int .i64 b, .int .i64 c, .int .i64 d, .int .i64 u, .int .i64 v], 58), ([.int .i64 0, .int .i64 0, .int .i64 0, .int .i64 0, .int .i64 0, .int .i64 0], 58)] := ⟨_, rfl⟩
      rw [← hW1] at G0 G1 B
      go_enter Try.func40, Try.ntmps40
      go_upto_region 1 with (fail)
      rw [show (w.alloc (.cells #[.int .i64 a, .int .i64 b, .int .i64 c, .int .i64 d, .int .i64 u, .int .i64 v] 58)).alloc (.cells #[.int .i64 0, .int .i64 0, .int .i64 0, .int .i64 0, .int .i64 0, .int .i64 0] 58) = W1 from hW1.symm]
      clear hW1
      have cG00 : W1.cell? ⟨w.heap.size, 0, none⟩ = some (.int .i64 a) := G0.out.cell 0
      have cG01 : W1.cell? ⟨w.heap.size, 1, none⟩ = some (.int .i64 b) := G0.out.cell 1
      have cG02 : W1.cell? ⟨w.heap.size, 2, none⟩ = some (.int .i64 c) := G0.out.cell 2
      have cG03 : W1.cell? ⟨w.heap.size, 3, none⟩ = some (.int .i64 d) := G0.out.cell 3
      have cG04 : W1.cell? ⟨w.heap.size, 4, none⟩ = some (.int .i64 u) := G0.out.cell 4
      have cG05 : W1.cell? ⟨w.heap.size, 5, none⟩ = some (.int .i64 v) := G0.out.cell 5
      have cG10 : W1.cell? ⟨w.heap.size + 1, 0, none⟩ = some (.int .i64 0) := G1.out.cell 0
      have cG11 : W1.cell? ⟨w.heap.size + 1, 1, none⟩ = some (.int .i64 0) := G1.out.cell 1
      have cG12 : W1.cell? ⟨w.heap.size + 1, 2, none⟩ = some (.int .i64 0) := G1.out.cell 2
      have cG13 : W1.cell? ⟨w.heap.size + 1, 3, none⟩ = some (.int .i64 0) := G1.out.cell 3
      have cG14 : W1.cell? ⟨w.heap.size + 1, 4, none⟩ = some (.int .i64 0) := G1.out.cell 4
      have cG15 : W1.cell? ⟨w.heap.size + 1, 5, none⟩ = some (.int .i64 0) := G1.out.cell 5
      go_wp2_with fail
      refine (CM.out _).mono ?_
      rintro e w1 ⟨rfl, hb1⟩
      clear cG00 cG01 cG02 cG03 cG04 cG05 cG10 cG11 cG12 cG13 cG14 cG15
      replace G0 := Lib.hid (G0.out.below hb1 G0.out.lt)
      replace G1 := Lib.hid (G1.out.below hb1 G1.out.lt)
      replace B := Lib.hid (bvia B.out hb1)
      clear hb1
      have cG00 : w1.cell? ⟨w.heap.size, 0, none⟩ = some (.int .i64 a) := G0.out.cell 0
      have cG01 : w1.cell? ⟨w.heap.size, 1, none⟩ = some (.int .i64 b) := G0.out.cell 1
      have cG02 : w1.cell? ⟨w.heap.size, 2, none⟩ = some (.int .i64 c) := G0.out.cell 2
      have cG03 : w1.cell? ⟨w.heap.size, 3, none⟩ = some (.int .i64 d) := G0.out.cell 3
      have cG04 : w1.cell? ⟨w.heap.size, 4, none⟩ = some (.int .i64 u) := G0.out.cell 4
      have cG05 : w1.cell? ⟨w.heap.size, 5, none⟩ = some (.int .i64 v) := G0.out.cell 5
      have cG10 : w1.cell? ⟨w.heap.size + 1, 0, none⟩ = some (.int .i64 0) := G1.out.cell 0
      have cG11 : w1.cell? ⟨w.heap.size + 1, 1, none⟩ = some (.int .i64 0) := G1.out.cell 1
      have cG12 : w1.cell? ⟨w.heap.size + 1, 2, none⟩ = some (.int .i64 0) := G1.out.cell 2
      have cG13 : w1.cell? ⟨w.heap.size + 1, 3, none⟩ = some (.int .i64 0) := G1.out.cell 3
      have cG14 : w1.cell? ⟨w.heap.size + 1, 4, none⟩ = some (.int .i64 0) := G1.out.cell 4
      have cG15 : w1.cell? ⟨w.heap.size + 1, 5, none⟩ = some (.int .i64 0) := G1.out.cell 5
      go_upto_region 4 with (fail)
      rw [← HE.out]
      clear e1 e2 e3
      clear cG00 cG01 cG02 cG03 cG04 cG05 cG10 cG11 cG12 cG13 cG14 cG15
      have cG10 : w1.cell? ⟨w.heap.size + 1, 0, none⟩ = some (.int .i64 0) := G1.out.cell 0
      have fG10 : w1.frozen? ⟨w.heap.size + 1, 0, none⟩ = false := G1.out.free 0
      have cG11 : w1.cell? ⟨w.heap.size + 1, 1, none⟩ = some (.int .i64 0) := G1.out.cell 1
      have fG11 : w1.frozen? ⟨w.heap.size + 1, 1, none⟩ = false := G1.out.free 1
      have cG12 : w1.cell? ⟨w.heap.size + 1, 2, none⟩ = some (.int .i64 0) := G1.out.cell 2
      have fG12 : w1.frozen? ⟨w.heap.size + 1, 2, none⟩ = false := G1.out.free 2
      have cG13 : w1.cell? ⟨w.heap.size + 1, 3, none⟩ = some (.int .i64 0) := G1.out.cell 3
      have fG13 : w1.frozen? ⟨w.heap.size + 1, 3, none⟩ = false := G1.out.free 3
      have cG14 : w1.cell? ⟨w.heap.size + 1, 4, none⟩ = some (.int .i64 0) := G1.out.cell 4
      have fG14 : w1.frozen? ⟨w.heap.size + 1, 4, none⟩ = false := G1.out.free 4
      have cG15 : w1.cell? ⟨w.heap.size + 1, 5, none⟩ = some (.int .i64 0) := G1.out.cell 5
      have fG15 : w1.frozen? ⟨w.heap.size + 1, 5, none⟩ = false := G1.out.free 5
      go_wp2
      refine post_cell_tmp (g := w.heap.size + 1) (t := 58) (cs := [.int .i64 0, .int .i64 0, .int .i64 0, .int .i64 0, .int .i64 0, .int .i64 0]) (v := .int .i64 6) ?_ Try.results40 rfl rfl rfl Try.underlying58 (by kernel_rfl) ⟨rfl, ?_⟩
      · exact ((((((G1.out.set 0 _).set 1 _).set 2 _).set 3 _).set 4 _).set 5 _)
      · exact ((((((B.out.setCell (p := ⟨w.heap.size + 1, 0, none⟩) (show w.heap.size ≤ w.heap.size + 1 by omega) _).setCell (p := ⟨w.heap.size + 1, 1, none⟩) (show w.heap.size ≤ w.heap.size + 1 by omega) _).setCell (p := ⟨w.heap.size + 1, 2, none⟩) (show w.heap.size ≤ w.heap.size + 1 by omega) _).setCell (p := ⟨w.heap.size + 1, 3, none⟩) (show w.heap.size ≤ w.heap.size + 1 by omega) _).setCell (p := ⟨w.heap.size + 1, 4, none⟩) (show w.heap.size ≤ w.heap.size + 1 by omega) _).setCell (p := ⟨w.heap.size + 1, 5, none⟩) (show w.heap.size ≤ w.heap.size + 1 by omega) _)
    rw [if_pos hD]
    have bp := (unit_bnd hD hd).1
    have bq := (unit_bnd hD hb).2
    have br := (unit_bnd hD hc).2
    have bs := (unit_bnd hD ha).1
    have hQ : invQ a b c d u v = ((a * d - b * c) * d, -(a * d - b * c) * b, -(a * d - b * c) * c, (a * d - b * c) * a, -((a * d - b * c) * d * u + -(a * d - b * c) * b * v + 0), -(-(a * d - b * c) * c * u + (a * d - b * c) * a * v + 0)) := rfl
    rw [hQ]
    clear hQ
    simp only [Int.add_zero]
    obtain ⟨E, hE⟩ : ∃ E, E = a * d - b * c := ⟨_, rfl⟩
    have HE := Lib.hid hE
    rw [← hE] at hD bp bq br bs ⊢
    have k0 : IntKind.i64.wrap (-E) = -E := IntWalk.i64_in _ (by omega)
    have k1 : IntKind.i64.wrap (E * d) = E * d := IntWalk.i64_in _ (by omega)
    have k2 : IntKind.i64.wrap (-E * b) = -E * b := IntWalk.i64_in _ (by omega)
    have k3 : IntKind.i64.wrap (-E * c) = -E * c := IntWalk.i64_in _ (by omega)
    have k4 : IntKind.i64.wrap (E * a) = E * a := IntWalk.i64_in _ (by omega)
    have jj : ((E != 1) = false ∨ ((E != 1) = true ∧ (E != -1) = false)) := by
      rcases hD with h | h
      · left; rw [h]; rfl
      · right; rw [h]; exact ⟨rfl, rfl⟩
    have CG := Lib.hid (fun W => rimageC (E * d) (-E * b) (-E * c) (E * a) u v 10000 1000000 W bp bq br bs hu hv (by decide))
    have m1 := mb 10000 1000000 10000000000 bp hu (by decide)
    have m2 := mb 10000 1000000 10000000000 bq hv (by decide)
    have m3 := mb 10000 1000000 10000000000 br hu (by decide)
    have m4 := mb 10000 1000000 10000000000 bs hv (by decide)
    have i1 : IntKind.i64.wrap (-(E * d * u + -E * b * v)) = -(E * d * u + -E * b * v) := IntWalk.i64_in _ (by omega)
    have i2 : IntKind.i64.wrap (-(-E * c * u + E * a * v)) = -(-E * c * u + E * a * v) := IntWalk.i64_in _ (by omega)
    have CV := Lib.hid (fun W => rmoveC (E * d) (-E * b) (-E * c) (E * a) (-(E * d * u + -E * b * v)) (-(-E * c * u + E * a * v)) W)
    clear m1 m2 m3 m4 bp bq br bs hu hv ha hb hc hd hE hD hV
    unfold okV6 vV6
    simp only
    generalize E * d * u + -E * b * v = X at *
    generalize -E * c * u + E * a * v = Y at *
    rcases jj with j1 | ⟨j1, j2⟩
    · cases hO : okV (E * d) (-E * b) (-E * c) (E * a) (-X) (-Y) with
      | false =>
        rw [hO] at CV
        rw [if_neg (by decide)]
        clear hO
        have G0 : Hid (Has (boxW w [([.int .i64 a, .int .i64 b, .int .i64 c, .int .i64 d, .int .i64 u, .int .i64 v], 58), ([.int .i64 0, .int .i64 0, .int .i64 0, .int .i64 0, .int .i64 0, .int .i64 0], 58)]) (w.heap.size) 58 [.int .i64 a, .int .i64 b, .int .i64 c, .int .i64 d, .int .i64 u, .int .i64 v]) := box_has [([.int .i64 a, .int .i64 b, .int .i64 c, .int .i64 d, .int .i64 u, .int .i64 v], 58), ([.int .i64 0, .int .i64 0, .int .i64 0, .int .i64 0, .int .i64 0, .int .i64 0], 58)] (w := w) (Below.refl _ _) (i := 0) rfl
        have G1 : Hid (Has (boxW w [([.int .i64 a, .int .i64 b, .int .i64 c, .int .i64 d, .int .i64 u, .int .i64 v], 58), ([.int .i64 0, .int .i64 0, .int .i64 0, .int .i64 0, .int .i64 0, .int .i64 0], 58)]) (w.heap.size + 1) 58 [.int .i64 0, .int .i64 0, .int .i64 0, .int .i64 0, .int .i64 0, .int .i64 0]) := box_has [([.int .i64 a, .int .i64 b, .int .i64 c, .int .i64 d, .int .i64 u, .int .i64 v], 58), ([.int .i64 0, .int .i64 0, .int .i64 0, .int .i64 0, .int .i64 0, .int .i64 0], 58)] (w := w) (Below.refl _ _) (i := 1) rfl
        have B := Lib.hid (boxW_below [([.int .i64 a, .int .i64 b, .int .i64 c, .int .i64 d, .int .i64 u, .int .i64 v], 58), ([.int .i64 0, .int .i64 0, .int .i64 0, .int .i64 0, .int .i64 0, .int .i64 0], 58)] w)
        obtain ⟨W1, hW1⟩ : ∃ W1, W1 = boxW w [([.int .i64 a, .int .i64 b, .int .i64 c, .int .i64 d, .int .i64 u, .int .i64 v], 58), ([.int .i64 0, .int .i64 0, .int .i64 0, .int .i64 0, .int .i64 0, .int .i64 0], 58)] := ⟨_, rfl⟩
        rw [← hW1] at G0 G1 B
        go_enter Try.func40, Try.ntmps40
        go_upto_region 1 with (fail)
        rw [show (w.alloc (.cells #[.int .i64 a, .int .i64 b, .int .i64 c, .int .i64 d, .int .i64 u, .int .i64 v] 58)).alloc (.cells #[.int .i64 0, .int .i64 0, .int .i64 0, .int .i64 0, .int .i64 0, .int .i64 0] 58) = W1 from hW1.symm]
        clear hW1
        have cG00 : W1.cell? ⟨w.heap.size, 0, none⟩ = some (.int .i64 a) := G0.out.cell 0
        have cG01 : W1.cell? ⟨w.heap.size, 1, none⟩ = some (.int .i64 b) := G0.out.cell 1
        have cG02 : W1.cell? ⟨w.heap.size, 2, none⟩ = some (.int .i64 c) := G0.out.cell 2
        have cG03 : W1.cell? ⟨w.heap.size, 3, none⟩ = some (.int .i64 d) := G0.out.cell 3
        have cG04 : W1.cell? ⟨w.heap.size, 4, none⟩ = some (.int .i64 u) := G0.out.cell 4
        have cG05 : W1.cell? ⟨w.heap.size, 5, none⟩ = some (.int .i64 v) := G0.out.cell 5
        have cG10 : W1.cell? ⟨w.heap.size + 1, 0, none⟩ = some (.int .i64 0) := G1.out.cell 0
        have cG11 : W1.cell? ⟨w.heap.size + 1, 1, none⟩ = some (.int .i64 0) := G1.out.cell 1
        have cG12 : W1.cell? ⟨w.heap.size + 1, 2, none⟩ = some (.int .i64 0) := G1.out.cell 2
        have cG13 : W1.cell? ⟨w.heap.size + 1, 3, none⟩ = some (.int .i64 0) := G1.out.cell 3
        have cG14 : W1.cell? ⟨w.heap.size + 1, 4, none⟩ = some (.int .i64 0) := G1.out.cell 4
        have cG15 : W1.cell? ⟨w.heap.size + 1, 5, none⟩ = some (.int .i64 0) := G1.out.cell 5
        go_wp2_with fail
        refine (CM.out _).mono ?_
        rintro e w1 ⟨rfl, hb1⟩
        clear cG00 cG01 cG02 cG03 cG04 cG05 cG10 cG11 cG12 cG13 cG14 cG15
        replace G0 := Lib.hid (G0.out.below hb1 G0.out.lt)
        replace G1 := Lib.hid (G1.out.below hb1 G1.out.lt)
        replace B := Lib.hid (bvia B.out hb1)
        clear hb1
        have cG00 : w1.cell? ⟨w.heap.size, 0, none⟩ = some (.int .i64 a) := G0.out.cell 0
        have cG01 : w1.cell? ⟨w.heap.size, 1, none⟩ = some (.int .i64 b) := G0.out.cell 1
        have cG02 : w1.cell? ⟨w.heap.size, 2, none⟩ = some (.int .i64 c) := G0.out.cell 2
        have cG03 : w1.cell? ⟨w.heap.size, 3, none⟩ = some (.int .i64 d) := G0.out.cell 3
        have cG04 : w1.cell? ⟨w.heap.size, 4, none⟩ = some (.int .i64 u) := G0.out.cell 4
        have cG05 : w1.cell? ⟨w.heap.size, 5, none⟩ = some (.int .i64 v) := G0.out.cell 5
        have cG10 : w1.cell? ⟨w.heap.size + 1, 0, none⟩ = some (.int .i64 0) := G1.out.cell 0
        have cG11 : w1.cell? ⟨w.heap.size + 1, 1, none⟩ = some (.int .i64 0) := G1.out.cell 1
        have cG12 : w1.cell? ⟨w.heap.size + 1, 2, none⟩ = some (.int .i64 0) := G1.out.cell 2
        have cG13 : w1.cell? ⟨w.heap.size + 1, 3, none⟩ = some (.int .i64 0) := G1.out.cell 3
        have cG14 : w1.cell? ⟨w.heap.size + 1, 4, none⟩ = some (.int .i64 0) := G1.out.cell 4
        have cG15 : w1.cell? ⟨w.heap.size + 1, 5, none⟩ = some (.int .i64 0) := G1.out.cell 5
        go_upto_region 4 with (fail)
        rw [← HE.out]
        clear e1 e2 e3
        have Q1 : Hid (w.heap.size + 1 < w1.heap.size) := G1.out.lt
        go_upto_region 6 with (fail)
        go_upto_region 7 with (fail)
        clear cG00 cG01 cG02 cG03 cG04 cG05 cG10 cG11 cG12 cG13 cG14 cG15
        have D1 := Lib.hid ((Below.refl w1.heap.size w1).alloc (Nat.le_refl _) (.cells #[.int .i64 (E * d), .int .i64 (-E * b), .int .i64 (-E * c), .int .i64 (E * a), .int .i64 0, .int .i64 0] 58))
        have G5 : Hid (Has (w1.alloc (.cells #[.int .i64 (E * d), .int .i64 (-E * b), .int .i64 (-E * c), .int .i64 (E * a), .int .i64 0, .int .i64 0] 58)) w1.heap.size 58 [.int .i64 (E * d), .int .i64 (-E * b), .int .i64 (-E * c), .int .i64 (E * a), .int .i64 0, .int .i64 0]) := Has.new rfl
        replace G0 := Lib.hid (G0.out.below D1.out G0.out.lt)
        replace G1 := Lib.hid (G1.out.below D1.out G1.out.lt)
        replace B := Lib.hid (bvia B.out D1.out)
        have hK : w.heap.size + 1 < w1.heap.size := by have := Q1.out; omega
        clear D1
        generalize w1.alloc (.cells #[.int .i64 (E * d), .int .i64 (-E * b), .int .i64 (-E * c), .int .i64 (E * a), .int .i64 0, .int .i64 0] 58) = V1 at *
        generalize w1.heap.size = K5 at *
        have cG00 : V1.cell? ⟨w.heap.size, 0, none⟩ = some (.int .i64 a) := G0.out.cell 0
        have cG01 : V1.cell? ⟨w.heap.size, 1, none⟩ = some (.int .i64 b) := G0.out.cell 1
        have cG02 : V1.cell? ⟨w.heap.size, 2, none⟩ = some (.int .i64 c) := G0.out.cell 2
        have cG03 : V1.cell? ⟨w.heap.size, 3, none⟩ = some (.int .i64 d) := G0.out.cell 3
        have cG04 : V1.cell? ⟨w.heap.size, 4, none⟩ = some (.int .i64 u) := G0.out.cell 4
        have cG05 : V1.cell? ⟨w.heap.size, 5, none⟩ = some (.int .i64 v) := G0.out.cell 5
        have cG10 : V1.cell? ⟨w.heap.size + 1, 0, none⟩ = some (.int .i64 0) := G1.out.cell 0
        have cG11 : V1.cell? ⟨w.heap.size + 1, 1, none⟩ = some (.int .i64 0) := G1.out.cell 1
        have cG12 : V1.cell? ⟨w.heap.size + 1, 2, none⟩ = some (.int .i64 0) := G1.out.cell 2
        have cG13 : V1.cell? ⟨w.heap.size + 1, 3, none⟩ = some (.int .i64 0) := G1.out.cell 3
        have cG14 : V1.cell? ⟨w.heap.size + 1, 4, none⟩ = some (.int .i64 0) := G1.out.cell 4
        have cG15 : V1.cell? ⟨w.heap.size + 1, 5, none⟩ = some (.int .i64 0) := G1.out.cell 5
        have cG50 : V1.cell? ⟨K5, 0, none⟩ = some (.int .i64 (E * d)) := G5.out.cell 0
        have cG51 : V1.cell? ⟨K5, 1, none⟩ = some (.int .i64 (-E * b)) := G5.out.cell 1
        have cG52 : V1.cell? ⟨K5, 2, none⟩ = some (.int .i64 (-E * c)) := G5.out.cell 2
        have cG53 : V1.cell? ⟨K5, 3, none⟩ = some (.int .i64 (E * a)) := G5.out.cell 3
        have cG54 : V1.cell? ⟨K5, 4, none⟩ = some (.int .i64 0) := G5.out.cell 4
        have cG55 : V1.cell? ⟨K5, 5, none⟩ = some (.int .i64 0) := G5.out.cell 5
        go_wp2_with fail
        refine (CG.out _).mono ?_
        rintro e w2 ⟨rfl, hb2⟩
        clear cG00 cG01 cG02 cG03 cG04 cG05 cG10 cG11 cG12 cG13 cG14 cG15 cG50 cG51 cG52 cG53 cG54 cG55
        replace G0 := Lib.hid (G0.out.below hb2 G0.out.lt)
        replace G1 := Lib.hid (G1.out.below hb2 G1.out.lt)
        replace G5 := Lib.hid (G5.out.below hb2 G5.out.lt)
        replace B := Lib.hid (bvia B.out hb2)
        clear hb2
        have cG50 : w2.cell? ⟨K5, 0, none⟩ = some (.int .i64 (E * d)) := G5.out.cell 0
        have fG50 : w2.frozen? ⟨K5, 0, none⟩ = false := G5.out.free 0
        have cG51 : w2.cell? ⟨K5, 1, none⟩ = some (.int .i64 (-E * b)) := G5.out.cell 1
        have fG51 : w2.frozen? ⟨K5, 1, none⟩ = false := G5.out.free 1
        have cG52 : w2.cell? ⟨K5, 2, none⟩ = some (.int .i64 (-E * c)) := G5.out.cell 2
        have fG52 : w2.frozen? ⟨K5, 2, none⟩ = false := G5.out.free 2
        have cG53 : w2.cell? ⟨K5, 3, none⟩ = some (.int .i64 (E * a)) := G5.out.cell 3
        have fG53 : w2.frozen? ⟨K5, 3, none⟩ = false := G5.out.free 3
        have cG54 : w2.cell? ⟨K5, 4, none⟩ = some (.int .i64 0) := G5.out.cell 4
        have fG54 : w2.frozen? ⟨K5, 4, none⟩ = false := G5.out.free 4
        have cG55 : w2.cell? ⟨K5, 5, none⟩ = some (.int .i64 0) := G5.out.cell 5
        have fG55 : w2.frozen? ⟨K5, 5, none⟩ = false := G5.out.free 5
        go_upto_region 8 with (fail)
        clear cG50 fG50 cG51 fG51 cG52 fG52 cG53 fG53 cG54 fG54 cG55 fG55
        have D1 := Lib.hid ((Below.refl w2.heap.size w2).alloc (Nat.le_refl _) (.cells #[.int .i64 X, .int .i64 Y] 25))
        have G6 : Hid (Has (w2.alloc (.cells #[.int .i64 X, .int .i64 Y] 25)) w2.heap.size 25 [.int .i64 X, .int .i64 Y]) := Has.new rfl
        have hK6 : K5 < w2.heap.size := G5.out.lt
        replace G1 := Lib.hid (G1.out.below D1.out G1.out.lt)
        replace G5 := Lib.hid (G5.out.below D1.out G5.out.lt)
        replace B := Lib.hid (bvia B.out D1.out)
        clear D1 G0
        generalize w2.alloc (.cells #[.int .i64 X, .int .i64 Y] 25) = V2 at *
        generalize w2.heap.size = K6 at *
        have cG10 : V2.cell? ⟨w.heap.size + 1, 0, none⟩ = some (.int .i64 0) := G1.out.cell 0
        have cG11 : V2.cell? ⟨w.heap.size + 1, 1, none⟩ = some (.int .i64 0) := G1.out.cell 1
        have cG12 : V2.cell? ⟨w.heap.size + 1, 2, none⟩ = some (.int .i64 0) := G1.out.cell 2
        have cG13 : V2.cell? ⟨w.heap.size + 1, 3, none⟩ = some (.int .i64 0) := G1.out.cell 3
        have cG14 : V2.cell? ⟨w.heap.size + 1, 4, none⟩ = some (.int .i64 0) := G1.out.cell 4
        have cG15 : V2.cell? ⟨w.heap.size + 1, 5, none⟩ = some (.int .i64 0) := G1.out.cell 5
        have cG50 : V2.cell? ⟨K5, 0, none⟩ = some (.int .i64 (E * d)) := G5.out.cell 0
        have fG50 : V2.frozen? ⟨K5, 0, none⟩ = false := G5.out.free 0
        have cG51 : V2.cell? ⟨K5, 1, none⟩ = some (.int .i64 (-E * b)) := G5.out.cell 1
        have fG51 : V2.frozen? ⟨K5, 1, none⟩ = false := G5.out.free 1
        have cG52 : V2.cell? ⟨K5, 2, none⟩ = some (.int .i64 (-E * c)) := G5.out.cell 2
        have fG52 : V2.frozen? ⟨K5, 2, none⟩ = false := G5.out.free 2
        have cG53 : V2.cell? ⟨K5, 3, none⟩ = some (.int .i64 (E * a)) := G5.out.cell 3
        have fG53 : V2.frozen? ⟨K5, 3, none⟩ = false := G5.out.free 3
        have cG54 : V2.cell? ⟨K5, 4, none⟩ = some (.int .i64 0) := G5.out.cell 4
        have fG54 : V2.frozen? ⟨K5, 4, none⟩ = false := G5.out.free 4
        have cG55 : V2.cell? ⟨K5, 5, none⟩ = some (.int .i64 0) := G5.out.cell 5
        have fG55 : V2.frozen? ⟨K5, 5, none⟩ = false := G5.out.free 5
        have cG60 : V2.cell? ⟨K6, 0, none⟩ = some (.int .i64 X) := G6.out.cell 0
        have cG61 : V2.cell? ⟨K6, 1, none⟩ = some (.int .i64 Y) := G6.out.cell 1
        go_upto_region 9 with (fail)
        clear cG10 cG11 cG12 cG13 cG14 cG15 cG50 fG50 cG51 fG51 cG52 fG52 cG53 fG53 cG54 fG54 cG55 fG55 cG60 cG61
        replace G5 : Hid (Has ((V2.setCell ⟨K5, 4, none⟩ (.int .i64 (-X))).setCell ⟨K5, 5, none⟩ (.int .i64 (-Y))) K5 58 [.int .i64 (E * d), .int .i64 (-E * b), .int .i64 (-E * c), .int .i64 (E * a), .int .i64 (-X), .int .i64 (-Y)]) := (G5.out.set 4 (.int .i64 (-X))).set 5 (.int .i64 (-Y))
        replace G1 : Hid (Has ((V2.setCell ⟨K5, 4, none⟩ (.int .i64 (-X))).setCell ⟨K5, 5, none⟩ (.int .i64 (-Y))) (w.heap.size + 1) 58 [.int .i64 0, .int .i64 0, .int .i64 0, .int .i64 0, .int .i64 0, .int .i64 0]) := (G1.out.far (by omega) 4 _).far (by omega) 5 _
        replace B := Lib.hid ((B.out.setCell (p := ⟨K5, 4, none⟩) (show w.heap.size ≤ K5 by omega) (.int .i64 (-X))).setCell (p := ⟨K5, 5, none⟩) (show w.heap.size ≤ K5 by omega) (.int .i64 (-Y)))
        clear G6
        generalize (V2.setCell ⟨K5, 4, none⟩ (.int .i64 (-X))).setCell ⟨K5, 5, none⟩ (.int .i64 (-Y)) = V3 at *
        have cG50 : V3.cell? ⟨K5, 0, none⟩ = some (.int .i64 (E * d)) := G5.out.cell 0
        have cG51 : V3.cell? ⟨K5, 1, none⟩ = some (.int .i64 (-E * b)) := G5.out.cell 1
        have cG52 : V3.cell? ⟨K5, 2, none⟩ = some (.int .i64 (-E * c)) := G5.out.cell 2
        have cG53 : V3.cell? ⟨K5, 3, none⟩ = some (.int .i64 (E * a)) := G5.out.cell 3
        have cG54 : V3.cell? ⟨K5, 4, none⟩ = some (.int .i64 (-X)) := G5.out.cell 4
        have cG55 : V3.cell? ⟨K5, 5, none⟩ = some (.int .i64 (-Y)) := G5.out.cell 5
        go_wp2_with fail
        refine (CV.out _).mono ?_
        rintro e w3 ⟨rfl, hb3⟩
        clear cG50 cG51 cG52 cG53 cG54 cG55
        replace G1 := Lib.hid (G1.out.below hb3 G1.out.lt)
        replace G5 := Lib.hid (G5.out.below hb3 G5.out.lt)
        replace B := Lib.hid (bvia B.out hb3)
        clear hb3
        have cG10 : w3.cell? ⟨w.heap.size + 1, 0, none⟩ = some (.int .i64 0) := G1.out.cell 0
        have fG10 : w3.frozen? ⟨w.heap.size + 1, 0, none⟩ = false := G1.out.free 0
        have cG11 : w3.cell? ⟨w.heap.size + 1, 1, none⟩ = some (.int .i64 0) := G1.out.cell 1
        have fG11 : w3.frozen? ⟨w.heap.size + 1, 1, none⟩ = false := G1.out.free 1
        have cG12 : w3.cell? ⟨w.heap.size + 1, 2, none⟩ = some (.int .i64 0) := G1.out.cell 2
        have fG12 : w3.frozen? ⟨w.heap.size + 1, 2, none⟩ = false := G1.out.free 2
        have cG13 : w3.cell? ⟨w.heap.size + 1, 3, none⟩ = some (.int .i64 0) := G1.out.cell 3
        have fG13 : w3.frozen? ⟨w.heap.size + 1, 3, none⟩ = false := G1.out.free 3
        have cG14 : w3.cell? ⟨w.heap.size + 1, 4, none⟩ = some (.int .i64 0) := G1.out.cell 4
        have fG14 : w3.frozen? ⟨w.heap.size + 1, 4, none⟩ = false := G1.out.free 4
        have cG15 : w3.cell? ⟨w.heap.size + 1, 5, none⟩ = some (.int .i64 0) := G1.out.cell 5
        have fG15 : w3.frozen? ⟨w.heap.size + 1, 5, none⟩ = false := G1.out.free 5
        go_wp2
        refine post_cell_tmp (g := w.heap.size + 1) (t := 58) (cs := [.int .i64 0, .int .i64 0, .int .i64 0, .int .i64 0, .int .i64 0, .int .i64 0]) (v := .int .i64 7) ?_ Try.results40 rfl rfl rfl Try.underlying58 (by kernel_rfl) ⟨rfl, ?_⟩
        · exact ((((((G1.out.set 0 _).set 1 _).set 2 _).set 3 _).set 4 _).set 5 _)
        · exact ((((((B.out.setCell (p := ⟨w.heap.size + 1, 0, none⟩) (show w.heap.size ≤ w.heap.size + 1 by omega) _).setCell (p := ⟨w.heap.size + 1, 1, none⟩) (show w.heap.size ≤ w.heap.size + 1 by omega) _).setCell (p := ⟨w.heap.size + 1, 2, none⟩) (show w.heap.size ≤ w.heap.size + 1 by omega) _).setCell (p := ⟨w.heap.size + 1, 3, none⟩) (show w.heap.size ≤ w.heap.size + 1 by omega) _).setCell (p := ⟨w.heap.size + 1, 4, none⟩) (show w.heap.size ≤ w.heap.size + 1 by omega) _).setCell (p := ⟨w.heap.size + 1, 5, none⟩) (show w.heap.size ≤ w.heap.size + 1 by omega) _)
      | true =>
        rw [hO] at CV
        rw [if_pos rfl]
        clear hO
        have G0 : Hid (Has (boxW w [([.int .i64 a, .int .i64 b, .int .i64 c, .int .i64 d, .int .i64 u, .int .i64 v], 58), ([.int .i64 0, .int .i64 0, .int .i64 0, .int .i64 0, .int .i64 0, .int .i64 0], 58)]) (w.heap.size) 58 [.int .i64 a, .int .i64 b, .int .i64 c, .int .i64 d, .int .i64 u, .int .i64 v]) := box_has [([.int .i64 a, .int .i64 b, .int .i64 c, .int .i64 d, .int .i64 u, .int .i64 v], 58), ([.int .i64 0, .int .i64 0, .int .i64 0, .int .i64 0, .int .i64 0, .int .i64 0], 58)] (w := w) (Below.refl _ _) (i := 0) rfl
        have G1 : Hid (Has (boxW w [([.int .i64 a, .int .i64 b, .int .i64 c, .int .i64 d, .int .i64 u, .int .i64 v], 58), ([.int .i64 0, .int .i64 0, .int .i64 0, .int .i64 0, .int .i64 0, .int .i64 0], 58)]) (w.heap.size + 1) 58 [.int .i64 0, .int .i64 0, .int .i64 0, .int .i64 0, .int .i64 0, .int .i64 0]) := box_has [([.int .i64 a, .int .i64 b, .int .i64 c, .int .i64 d, .int .i64 u, .int .i64 v], 58), ([.int .i64 0, .int .i64 0, .int .i64 0, .int .i64 0, .int .i64 0, .int .i64 0], 58)] (w := w) (Below.refl _ _) (i := 1) rfl
        have B := Lib.hid (boxW_below [([.int .i64 a, .int .i64 b, .int .i64 c, .int .i64 d, .int .i64 u, .int .i64 v], 58), ([.int .i64 0, .int .i64 0, .int .i64 0, .int .i64 0, .int .i64 0, .int .i64 0], 58)] w)
        obtain ⟨W1, hW1⟩ : ∃ W1, W1 = boxW w [([.int .i64 a, .int .i64 b, .int .i64 c, .int .i64 d, .int .i64 u, .int .i64 v], 58), ([.int .i64 0, .int .i64 0, .int .i64 0, .int .i64 0, .int .i64 0, .int .i64 0], 58)] := ⟨_, rfl⟩
        rw [← hW1] at G0 G1 B
        go_enter Try.func40, Try.ntmps40
        go_upto_region 1 with (fail)
        rw [show (w.alloc (.cells #[.int .i64 a, .int .i64 b, .int .i64 c, .int .i64 d, .int .i64 u, .int .i64 v] 58)).alloc (.cells #[.int .i64 0, .int .i64 0, .int .i64 0, .int .i64 0, .int .i64 0, .int .i64 0] 58) = W1 from hW1.symm]
        clear hW1
        have cG00 : W1.cell? ⟨w.heap.size, 0, none⟩ = some (.int .i64 a) := G0.out.cell 0
        have cG01 : W1.cell? ⟨w.heap.size, 1, none⟩ = some (.int .i64 b) := G0.out.cell 1
        have cG02 : W1.cell? ⟨w.heap.size, 2, none⟩ = some (.int .i64 c) := G0.out.cell 2
        have cG03 : W1.cell? ⟨w.heap.size, 3, none⟩ = some (.int .i64 d) := G0.out.cell 3
        have cG04 : W1.cell? ⟨w.heap.size, 4, none⟩ = some (.int .i64 u) := G0.out.cell 4
        have cG05 : W1.cell? ⟨w.heap.size, 5, none⟩ = some (.int .i64 v) := G0.out.cell 5
        have cG10 : W1.cell? ⟨w.heap.size + 1, 0, none⟩ = some (.int .i64 0) := G1.out.cell 0
        have cG11 : W1.cell? ⟨w.heap.size + 1, 1, none⟩ = some (.int .i64 0) := G1.out.cell 1
        have cG12 : W1.cell? ⟨w.heap.size + 1, 2, none⟩ = some (.int .i64 0) := G1.out.cell 2
        have cG13 : W1.cell? ⟨w.heap.size + 1, 3, none⟩ = some (.int .i64 0) := G1.out.cell 3
        have cG14 : W1.cell? ⟨w.heap.size + 1, 4, none⟩ = some (.int .i64 0) := G1.out.cell 4
        have cG15 : W1.cell? ⟨w.heap.size + 1, 5, none⟩ = some (.int .i64 0) := G1.out.cell 5
        go_wp2_with fail
        refine (CM.out _).mono ?_
        rintro e w1 ⟨rfl, hb1⟩
        clear cG00 cG01 cG02 cG03 cG04 cG05 cG10 cG11 cG12 cG13 cG14 cG15
        replace G0 := Lib.hid (G0.out.below hb1 G0.out.lt)
        replace G1 := Lib.hid (G1.out.below hb1 G1.out.lt)
        replace B := Lib.hid (bvia B.out hb1)
        clear hb1
        have cG00 : w1.cell? ⟨w.heap.size, 0, none⟩ = some (.int .i64 a) := G0.out.cell 0
        have cG01 : w1.cell? ⟨w.heap.size, 1, none⟩ = some (.int .i64 b) := G0.out.cell 1
        have cG02 : w1.cell? ⟨w.heap.size, 2, none⟩ = some (.int .i64 c) := G0.out.cell 2
        have cG03 : w1.cell? ⟨w.heap.size, 3, none⟩ = some (.int .i64 d) := G0.out.cell 3
        have cG04 : w1.cell? ⟨w.heap.size, 4, none⟩ = some (.int .i64 u) := G0.out.cell 4
        have cG05 : w1.cell? ⟨w.heap.size, 5, none⟩ = some (.int .i64 v) := G0.out.cell 5
        have cG10 : w1.cell? ⟨w.heap.size + 1, 0, none⟩ = some (.int .i64 0) := G1.out.cell 0
        have cG11 : w1.cell? ⟨w.heap.size + 1, 1, none⟩ = some (.int .i64 0) := G1.out.cell 1
        have cG12 : w1.cell? ⟨w.heap.size + 1, 2, none⟩ = some (.int .i64 0) := G1.out.cell 2
        have cG13 : w1.cell? ⟨w.heap.size + 1, 3, none⟩ = some (.int .i64 0) := G1.out.cell 3
        have cG14 : w1.cell? ⟨w.heap.size + 1, 4, none⟩ = some (.int .i64 0) := G1.out.cell 4
        have cG15 : w1.cell? ⟨w.heap.size + 1, 5, none⟩ = some (.int .i64 0) := G1.out.cell 5
        go_upto_region 4 with (fail)
        rw [← HE.out]
        clear e1 e2 e3
        have Q1 : Hid (w.heap.size + 1 < w1.heap.size) := G1.out.lt
        go_upto_region 6 with (fail)
        go_upto_region 7 with (fail)
        clear cG00 cG01 cG02 cG03 cG04 cG05 cG10 cG11 cG12 cG13 cG14 cG15
        have D1 := Lib.hid ((Below.refl w1.heap.size w1).alloc (Nat.le_refl _) (.cells #[.int .i64 (E * d), .int .i64 (-E * b), .int .i64 (-E * c), .int .i64 (E * a), .int .i64 0, .int .i64 0] 58))
        have G5 : Hid (Has (w1.alloc (.cells #[.int .i64 (E * d), .int .i64 (-E * b), .int .i64 (-E * c), .int .i64 (E * a), .int .i64 0, .int .i64 0] 58)) w1.heap.size 58 [.int .i64 (E * d), .int .i64 (-E * b), .int .i64 (-E * c), .int .i64 (E * a), .int .i64 0, .int .i64 0]) := Has.new rfl
        replace G0 := Lib.hid (G0.out.below D1.out G0.out.lt)
        replace G1 := Lib.hid (G1.out.below D1.out G1.out.lt)
        replace B := Lib.hid (bvia B.out D1.out)
        have hK : w.heap.size + 1 < w1.heap.size := by have := Q1.out; omega
        clear D1
        generalize w1.alloc (.cells #[.int .i64 (E * d), .int .i64 (-E * b), .int .i64 (-E * c), .int .i64 (E * a), .int .i64 0, .int .i64 0] 58) = V1 at *
        generalize w1.heap.size = K5 at *
        have cG00 : V1.cell? ⟨w.heap.size, 0, none⟩ = some (.int .i64 a) := G0.out.cell 0
        have cG01 : V1.cell? ⟨w.heap.size, 1, none⟩ = some (.int .i64 b) := G0.out.cell 1
        have cG02 : V1.cell? ⟨w.heap.size, 2, none⟩ = some (.int .i64 c) := G0.out.cell 2
        have cG03 : V1.cell? ⟨w.heap.size, 3, none⟩ = some (.int .i64 d) := G0.out.cell 3
        have cG04 : V1.cell? ⟨w.heap.size, 4, none⟩ = some (.int .i64 u) := G0.out.cell 4
        have cG05 : V1.cell? ⟨w.heap.size, 5, none⟩ = some (.int .i64 v) := G0.out.cell 5
        have cG10 : V1.cell? ⟨w.heap.size + 1, 0, none⟩ = some (.int .i64 0) := G1.out.cell 0
        have cG11 : V1.cell? ⟨w.heap.size + 1, 1, none⟩ = some (.int .i64 0) := G1.out.cell 1
        have cG12 : V1.cell? ⟨w.heap.size + 1, 2, none⟩ = some (.int .i64 0) := G1.out.cell 2
        have cG13 : V1.cell? ⟨w.heap.size + 1, 3, none⟩ = some (.int .i64 0) := G1.out.cell 3
        have cG14 : V1.cell? ⟨w.heap.size + 1, 4, none⟩ = some (.int .i64 0) := G1.out.cell 4
        have cG15 : V1.cell? ⟨w.heap.size + 1, 5, none⟩ = some (.int .i64 0) := G1.out.cell 5
        have cG50 : V1.cell? ⟨K5, 0, none⟩ = some (.int .i64 (E * d)) := G5.out.cell 0
        have cG51 : V1.cell? ⟨K5, 1, none⟩ = some (.int .i64 (-E * b)) := G5.out.cell 1
        have cG52 : V1.cell? ⟨K5, 2, none⟩ = some (.int .i64 (-E * c)) := G5.out.cell 2
        have cG53 : V1.cell? ⟨K5, 3, none⟩ = some (.int .i64 (E * a)) := G5.out.cell 3
        have cG54 : V1.cell? ⟨K5, 4, none⟩ = some (.int .i64 0) := G5.out.cell 4
        have cG55 : V1.cell? ⟨K5, 5, none⟩ = some (.int .i64 0) := G5.out.cell 5
        go_wp2_with fail
        refine (CG.out _).mono ?_
        rintro e w2 ⟨rfl, hb2⟩
        clear cG00 cG01 cG02 cG03 cG04 cG05 cG10 cG11 cG12 cG13 cG14 cG15 cG50 cG51 cG52 cG53 cG54 cG55
        replace G0 := Lib.hid (G0.out.below hb2 G0.out.lt)
        replace G1 := Lib.hid (G1.out.below hb2 G1.out.lt)
        replace G5 := Lib.hid (G5.out.below hb2 G5.out.lt)
        replace B := Lib.hid (bvia B.out hb2)
        clear hb2
        have cG50 : w2.cell? ⟨K5, 0, none⟩ = some (.int .i64 (E * d)) := G5.out.cell 0
        have fG50 : w2.frozen? ⟨K5, 0, none⟩ = false := G5.out.free 0
        have cG51 : w2.cell? ⟨K5, 1, none⟩ = some (.int .i64 (-E * b)) := G5.out.cell 1
        have fG51 : w2.frozen? ⟨K5, 1, none⟩ = false := G5.out.free 1
        have cG52 : w2.cell? ⟨K5, 2, none⟩ = some (.int .i64 (-E * c)) := G5.out.cell 2
        have fG52 : w2.frozen? ⟨K5, 2, none⟩ = false := G5.out.free 2
        have cG53 : w2.cell? ⟨K5, 3, none⟩ = some (.int .i64 (E * a)) := G5.out.cell 3
        have fG53 : w2.frozen? ⟨K5, 3, none⟩ = false := G5.out.free 3
        have cG54 : w2.cell? ⟨K5, 4, none⟩ = some (.int .i64 0) := G5.out.cell 4
        have fG54 : w2.frozen? ⟨K5, 4, none⟩ = false := G5.out.free 4
        have cG55 : w2.cell? ⟨K5, 5, none⟩ = some (.int .i64 0) := G5.out.cell 5
        have fG55 : w2.frozen? ⟨K5, 5, none⟩ = false := G5.out.free 5
        go_upto_region 8 with (fail)
        clear cG50 fG50 cG51 fG51 cG52 fG52 cG53 fG53 cG54 fG54 cG55 fG55
        have D1 := Lib.hid ((Below.refl w2.heap.size w2).alloc (Nat.le_refl _) (.cells #[.int .i64 X, .int .i64 Y] 25))
        have G6 : Hid (Has (w2.alloc (.cells #[.int .i64 X, .int .i64 Y] 25)) w2.heap.size 25 [.int .i64 X, .int .i64 Y]) := Has.new rfl
        have hK6 : K5 < w2.heap.size := G5.out.lt
        replace G1 := Lib.hid (G1.out.below D1.out G1.out.lt)
        replace G5 := Lib.hid (G5.out.below D1.out G5.out.lt)
        replace B := Lib.hid (bvia B.out D1.out)
        clear D1 G0
        generalize w2.alloc (.cells #[.int .i64 X, .int .i64 Y] 25) = V2 at *
        generalize w2.heap.size = K6 at *
        have cG10 : V2.cell? ⟨w.heap.size + 1, 0, none⟩ = some (.int .i64 0) := G1.out.cell 0
        have cG11 : V2.cell? ⟨w.heap.size + 1, 1, none⟩ = some (.int .i64 0) := G1.out.cell 1
        have cG12 : V2.cell? ⟨w.heap.size + 1, 2, none⟩ = some (.int .i64 0) := G1.out.cell 2
        have cG13 : V2.cell? ⟨w.heap.size + 1, 3, none⟩ = some (.int .i64 0) := G1.out.cell 3
        have cG14 : V2.cell? ⟨w.heap.size + 1, 4, none⟩ = some (.int .i64 0) := G1.out.cell 4
        have cG15 : V2.cell? ⟨w.heap.size + 1, 5, none⟩ = some (.int .i64 0) := G1.out.cell 5
        have cG50 : V2.cell? ⟨K5, 0, none⟩ = some (.int .i64 (E * d)) := G5.out.cell 0
        have fG50 : V2.frozen? ⟨K5, 0, none⟩ = false := G5.out.free 0
        have cG51 : V2.cell? ⟨K5, 1, none⟩ = some (.int .i64 (-E * b)) := G5.out.cell 1
        have fG51 : V2.frozen? ⟨K5, 1, none⟩ = false := G5.out.free 1
        have cG52 : V2.cell? ⟨K5, 2, none⟩ = some (.int .i64 (-E * c)) := G5.out.cell 2
        have fG52 : V2.frozen? ⟨K5, 2, none⟩ = false := G5.out.free 2
        have cG53 : V2.cell? ⟨K5, 3, none⟩ = some (.int .i64 (E * a)) := G5.out.cell 3
        have fG53 : V2.frozen? ⟨K5, 3, none⟩ = false := G5.out.free 3
        have cG54 : V2.cell? ⟨K5, 4, none⟩ = some (.int .i64 0) := G5.out.cell 4
        have fG54 : V2.frozen? ⟨K5, 4, none⟩ = false := G5.out.free 4
        have cG55 : V2.cell? ⟨K5, 5, none⟩ = some (.int .i64 0) := G5.out.cell 5
        have fG55 : V2.frozen? ⟨K5, 5, none⟩ = false := G5.out.free 5
        have cG60 : V2.cell? ⟨K6, 0, none⟩ = some (.int .i64 X) := G6.out.cell 0
        have cG61 : V2.cell? ⟨K6, 1, none⟩ = some (.int .i64 Y) := G6.out.cell 1
        go_upto_region 9 with (fail)
        clear cG10 cG11 cG12 cG13 cG14 cG15 cG50 fG50 cG51 fG51 cG52 fG52 cG53 fG53 cG54 fG54 cG55 fG55 cG60 cG61
        replace G5 : Hid (Has ((V2.setCell ⟨K5, 4, none⟩ (.int .i64 (-X))).setCell ⟨K5, 5, none⟩ (.int .i64 (-Y))) K5 58 [.int .i64 (E * d), .int .i64 (-E * b), .int .i64 (-E * c), .int .i64 (E * a), .int .i64 (-X), .int .i64 (-Y)]) := (G5.out.set 4 (.int .i64 (-X))).set 5 (.int .i64 (-Y))
        replace G1 : Hid (Has ((V2.setCell ⟨K5, 4, none⟩ (.int .i64 (-X))).setCell ⟨K5, 5, none⟩ (.int .i64 (-Y))) (w.heap.size + 1) 58 [.int .i64 0, .int .i64 0, .int .i64 0, .int .i64 0, .int .i64 0, .int .i64 0]) := (G1.out.far (by omega) 4 _).far (by omega) 5 _
        replace B := Lib.hid ((B.out.setCell (p := ⟨K5, 4, none⟩) (show w.heap.size ≤ K5 by omega) (.int .i64 (-X))).setCell (p := ⟨K5, 5, none⟩) (show w.heap.size ≤ K5 by omega) (.int .i64 (-Y)))
        clear G6
        generalize (V2.setCell ⟨K5, 4, none⟩ (.int .i64 (-X))).setCell ⟨K5, 5, none⟩ (.int .i64 (-Y)) = V3 at *
        have cG50 : V3.cell? ⟨K5, 0, none⟩ = some (.int .i64 (E * d)) := G5.out.cell 0
        have cG51 : V3.cell? ⟨K5, 1, none⟩ = some (.int .i64 (-E * b)) := G5.out.cell 1
        have cG52 : V3.cell? ⟨K5, 2, none⟩ = some (.int .i64 (-E * c)) := G5.out.cell 2
        have cG53 : V3.cell? ⟨K5, 3, none⟩ = some (.int .i64 (E * a)) := G5.out.cell 3
        have cG54 : V3.cell? ⟨K5, 4, none⟩ = some (.int .i64 (-X)) := G5.out.cell 4
        have cG55 : V3.cell? ⟨K5, 5, none⟩ = some (.int .i64 (-Y)) := G5.out.cell 5
        go_wp2_with fail
        refine (CV.out _).mono ?_
        rintro e w3 ⟨rfl, hb3⟩
        clear cG50 cG51 cG52 cG53 cG54 cG55
        replace G1 := Lib.hid (G1.out.below hb3 G1.out.lt)
        replace G5 := Lib.hid (G5.out.below hb3 G5.out.lt)
        replace B := Lib.hid (bvia B.out hb3)
        clear hb3
        have cG10 : w3.cell? ⟨w.heap.size + 1, 0, none⟩ = some (.int .i64 0) := G1.out.cell 0
        have fG10 : w3.frozen? ⟨w.heap.size + 1, 0, none⟩ = false := G1.out.free 0
        have cG11 : w3.cell? ⟨w.heap.size + 1, 1, none⟩ = some (.int .i64 0) := G1.out.cell 1
        have fG11 : w3.frozen? ⟨w.heap.size + 1, 1, none⟩ = false := G1.out.free 1
        have cG12 : w3.cell? ⟨w.heap.size + 1, 2, none⟩ = some (.int .i64 0) := G1.out.cell 2
        have fG12 : w3.frozen? ⟨w.heap.size + 1, 2, none⟩ = false := G1.out.free 2
        have cG13 : w3.cell? ⟨w.heap.size + 1, 3, none⟩ = some (.int .i64 0) := G1.out.cell 3
        have fG13 : w3.frozen? ⟨w.heap.size + 1, 3, none⟩ = false := G1.out.free 3
        have cG14 : w3.cell? ⟨w.heap.size + 1, 4, none⟩ = some (.int .i64 0) := G1.out.cell 4
        have fG14 : w3.frozen? ⟨w.heap.size + 1, 4, none⟩ = false := G1.out.free 4
        have cG15 : w3.cell? ⟨w.heap.size + 1, 5, none⟩ = some (.int .i64 0) := G1.out.cell 5
        have fG15 : w3.frozen? ⟨w.heap.size + 1, 5, none⟩ = false := G1.out.free 5
        have cG50 : w3.cell? ⟨K5, 0, none⟩ = some (.int .i64 (E * d)) := G5.out.cell 0
        have cG51 : w3.cell? ⟨K5, 1, none⟩ = some (.int .i64 (-E * b)) := G5.out.cell 1
        have cG52 : w3.cell? ⟨K5, 2, none⟩ = some (.int .i64 (-E * c)) := G5.out.cell 2
        have cG53 : w3.cell? ⟨K5, 3, none⟩ = some (.int .i64 (E * a)) := G5.out.cell 3
        have cG54 : w3.cell? ⟨K5, 4, none⟩ = some (.int .i64 (-X)) := G5.out.cell 4
        have cG55 : w3.cell? ⟨K5, 5, none⟩ = some (.int .i64 (-Y)) := G5.out.cell 5
        go_wp2
        refine post_cell_tmp (g := w.heap.size + 1) (t := 58) (cs := [.int .i64 (E * d), .int .i64 (-E * b), .int .i64 (-E * c), .int .i64 (E * a), .int .i64 (-X), .int .i64 (-Y)]) (v := .int .i64 0) ?_ Try.results40 rfl rfl rfl Try.underlying58 (by kernel_rfl) ⟨rfl, ?_⟩
        · exact ((((((G1.out.set 0 _).set 1 _).set 2 _).set 3 _).set 4 _).set 5 _)
        · exact ((((((B.out.setCell (p := ⟨w.heap.size + 1, 0, none⟩) (show w.heap.size ≤ w.heap.size + 1 by omega) _).setCell (p := ⟨w.heap.size + 1, 1, none⟩) (show w.heap.size ≤ w.heap.size + 1 by omega) _).setCell (p := ⟨w.heap.size + 1, 2, none⟩) (show w.heap.size ≤ w.heap.size + 1 by omega) _).setCell (p := ⟨w.heap.size + 1, 3, none⟩) (show w.heap.size ≤ w.heap.size + 1 by omega) _).setCell (p := ⟨w.heap.size + 1, 4, none⟩) (show w.heap.size ≤ w.heap.size + 1 by omega) _).setCell (p := ⟨w.heap.size + 1, 5, none⟩) (show w.heap.size ≤ w.heap.size + 1 by omega) _)
    · cases hO : okV (E * d) (-E * b) (-E * c) (E * a) (-X) (-Y) with
      | false =>
        rw [hO] at CV
        rw [if_neg (by decide)]
        clear hO
        have G0 : Hid (Has (boxW w [([.int .i64 a, .int .i64 b, .int .i64 c, .int .i64 d, .int .i64 u, .int .i64 v], 58), ([.int .i64 0, .int .i64 0, .int .i64 0, .int .i64 0, .int .i64 0, .int .i64 0], 58)]) (w.heap.size) 58 [.int .i64 a, .int .i64 b, .int .i64 c, .int .i64 d, .int .i64 u, .int .i64 v]) := box_has [([.int .i64 a, .int .i64 b, .int .i64 c, .int .i64 d, .int .i64 u, .int .i64 v], 58), ([.int .i64 0, .int .i64 0, .int .i64 0, .int .i64 0, .int .i64 0, .int .i64 0], 58)] (w := w) (Below.refl _ _) (i := 0) rfl
        have G1 : Hid (Has (boxW w [([.int .i64 a, .int .i64 b, .int .i64 c, .int .i64 d, .int .i64 u, .int .i64 v], 58), ([.int .i64 0, .int .i64 0, .int .i64 0, .int .i64 0, .int .i64 0, .int .i64 0], 58)]) (w.heap.size + 1) 58 [.int .i64 0, .int .i64 0, .int .i64 0, .int .i64 0, .int .i64 0, .int .i64 0]) := box_has [([.int .i64 a, .int .i64 b, .int .i64 c, .int .i64 d, .int .i64 u, .int .i64 v], 58), ([.int .i64 0, .int .i64 0, .int .i64 0, .int .i64 0, .int .i64 0, .int .i64 0], 58)] (w := w) (Below.refl _ _) (i := 1) rfl
        have B := Lib.hid (boxW_below [([.int .i64 a, .int .i64 b, .int .i64 c, .int .i64 d, .int .i64 u, .int .i64 v], 58), ([.int .i64 0, .int .i64 0, .int .i64 0, .int .i64 0, .int .i64 0, .int .i64 0], 58)] w)
        obtain ⟨W1, hW1⟩ : ∃ W1, W1 = boxW w [([.int .i64 a, .int .i64 b, .int .i64 c, .int .i64 d, .int .i64 u, .int .i64 v], 58), ([.int .i64 0, .int .i64 0, .int .i64 0, .int .i64 0, .int .i64 0, .int .i64 0], 58)] := ⟨_, rfl⟩
        rw [← hW1] at G0 G1 B
        go_enter Try.func40, Try.ntmps40
        go_upto_region 1 with (fail)
        rw [show (w.alloc (.cells #[.int .i64 a, .int .i64 b, .int .i64 c, .int .i64 d, .int .i64 u, .int .i64 v] 58)).alloc (.cells #[.int .i64 0, .int .i64 0, .int .i64 0, .int .i64 0, .int .i64 0, .int .i64 0] 58) = W1 from hW1.symm]
        clear hW1
        have cG00 : W1.cell? ⟨w.heap.size, 0, none⟩ = some (.int .i64 a) := G0.out.cell 0
        have cG01 : W1.cell? ⟨w.heap.size, 1, none⟩ = some (.int .i64 b) := G0.out.cell 1
        have cG02 : W1.cell? ⟨w.heap.size, 2, none⟩ = some (.int .i64 c) := G0.out.cell 2
        have cG03 : W1.cell? ⟨w.heap.size, 3, none⟩ = some (.int .i64 d) := G0.out.cell 3
        have cG04 : W1.cell? ⟨w.heap.size, 4, none⟩ = some (.int .i64 u) := G0.out.cell 4
        have cG05 : W1.cell? ⟨w.heap.size, 5, none⟩ = some (.int .i64 v) := G0.out.cell 5
        have cG10 : W1.cell? ⟨w.heap.size + 1, 0, none⟩ = some (.int .i64 0) := G1.out.cell 0
        have cG11 : W1.cell? ⟨w.heap.size + 1, 1, none⟩ = some (.int .i64 0) := G1.out.cell 1
        have cG12 : W1.cell? ⟨w.heap.size + 1, 2, none⟩ = some (.int .i64 0) := G1.out.cell 2
        have cG13 : W1.cell? ⟨w.heap.size + 1, 3, none⟩ = some (.int .i64 0) := G1.out.cell 3
        have cG14 : W1.cell? ⟨w.heap.size + 1, 4, none⟩ = some (.int .i64 0) := G1.out.cell 4
        have cG15 : W1.cell? ⟨w.heap.size + 1, 5, none⟩ = some (.int .i64 0) := G1.out.cell 5
        go_wp2_with fail
        refine (CM.out _).mono ?_
        rintro e w1 ⟨rfl, hb1⟩
        clear cG00 cG01 cG02 cG03 cG04 cG05 cG10 cG11 cG12 cG13 cG14 cG15
        replace G0 := Lib.hid (G0.out.below hb1 G0.out.lt)
        replace G1 := Lib.hid (G1.out.below hb1 G1.out.lt)
        replace B := Lib.hid (bvia B.out hb1)
        clear hb1
        have cG00 : w1.cell? ⟨w.heap.size, 0, none⟩ = some (.int .i64 a) := G0.out.cell 0
        have cG01 : w1.cell? ⟨w.heap.size, 1, none⟩ = some (.int .i64 b) := G0.out.cell 1
        have cG02 : w1.cell? ⟨w.heap.size, 2, none⟩ = some (.int .i64 c) := G0.out.cell 2
        have cG03 : w1.cell? ⟨w.heap.size, 3, none⟩ = some (.int .i64 d) := G0.out.cell 3
        have cG04 : w1.cell? ⟨w.heap.size, 4, none⟩ = some (.int .i64 u) := G0.out.cell 4
        have cG05 : w1.cell? ⟨w.heap.size, 5, none⟩ = some (.int .i64 v) := G0.out.cell 5
        have cG10 : w1.cell? ⟨w.heap.size + 1, 0, none⟩ = some (.int .i64 0) := G1.out.cell 0
        have cG11 : w1.cell? ⟨w.heap.size + 1, 1, none⟩ = some (.int .i64 0) := G1.out.cell 1
        have cG12 : w1.cell? ⟨w.heap.size + 1, 2, none⟩ = some (.int .i64 0) := G1.out.cell 2
        have cG13 : w1.cell? ⟨w.heap.size + 1, 3, none⟩ = some (.int .i64 0) := G1.out.cell 3
        have cG14 : w1.cell? ⟨w.heap.size + 1, 4, none⟩ = some (.int .i64 0) := G1.out.cell 4
        have cG15 : w1.cell? ⟨w.heap.size + 1, 5, none⟩ = some (.int .i64 0) := G1.out.cell 5
        go_upto_region 4 with (fail)
        rw [← HE.out]
        clear e1 e2 e3
        have Q1 : Hid (w.heap.size + 1 < w1.heap.size) := G1.out.lt
        go_upto_region 6 with (fail)
        go_upto_region 7 with (fail)
        clear cG00 cG01 cG02 cG03 cG04 cG05 cG10 cG11 cG12 cG13 cG14 cG15
        have D1 := Lib.hid ((Below.refl w1.heap.size w1).alloc (Nat.le_refl _) (.cells #[.int .i64 (E * d), .int .i64 (-E * b), .int .i64 (-E * c), .int .i64 (E * a), .int .i64 0, .int .i64 0] 58))
        have G5 : Hid (Has (w1.alloc (.cells #[.int .i64 (E * d), .int .i64 (-E * b), .int .i64 (-E * c), .int .i64 (E * a), .int .i64 0, .int .i64 0] 58)) w1.heap.size 58 [.int .i64 (E * d), .int .i64 (-E * b), .int .i64 (-E * c), .int .i64 (E * a), .int .i64 0, .int .i64 0]) := Has.new rfl
        replace G0 := Lib.hid (G0.out.below D1.out G0.out.lt)
        replace G1 := Lib.hid (G1.out.below D1.out G1.out.lt)
        replace B := Lib.hid (bvia B.out D1.out)
        have hK : w.heap.size + 1 < w1.heap.size := by have := Q1.out; omega
        clear D1
        generalize w1.alloc (.cells #[.int .i64 (E * d), .int .i64 (-E * b), .int .i64 (-E * c), .int .i64 (E * a), .int .i64 0, .int .i64 0] 58) = V1 at *
        generalize w1.heap.size = K5 at *
        have cG00 : V1.cell? ⟨w.heap.size, 0, none⟩ = some (.int .i64 a) := G0.out.cell 0
        have cG01 : V1.cell? ⟨w.heap.size, 1, none⟩ = some (.int .i64 b) := G0.out.cell 1
        have cG02 : V1.cell? ⟨w.heap.size, 2, none⟩ = some (.int .i64 c) := G0.out.cell 2
        have cG03 : V1.cell? ⟨w.heap.size, 3, none⟩ = some (.int .i64 d) := G0.out.cell 3
        have cG04 : V1.cell? ⟨w.heap.size, 4, none⟩ = some (.int .i64 u) := G0.out.cell 4
        have cG05 : V1.cell? ⟨w.heap.size, 5, none⟩ = some (.int .i64 v) := G0.out.cell 5
        have cG10 : V1.cell? ⟨w.heap.size + 1, 0, none⟩ = some (.int .i64 0) := G1.out.cell 0
        have cG11 : V1.cell? ⟨w.heap.size + 1, 1, none⟩ = some (.int .i64 0) := G1.out.cell 1
        have cG12 : V1.cell? ⟨w.heap.size + 1, 2, none⟩ = some (.int .i64 0) := G1.out.cell 2
        have cG13 : V1.cell? ⟨w.heap.size + 1, 3, none⟩ = some (.int .i64 0) := G1.out.cell 3
        have cG14 : V1.cell? ⟨w.heap.size + 1, 4, none⟩ = some (.int .i64 0) := G1.out.cell 4
        have cG15 : V1.cell? ⟨w.heap.size + 1, 5, none⟩ = some (.int .i64 0) := G1.out.cell 5
        have cG50 : V1.cell? ⟨K5, 0, none⟩ = some (.int .i64 (E * d)) := G5.out.cell 0
        have cG51 : V1.cell? ⟨K5, 1, none⟩ = some (.int .i64 (-E * b)) := G5.out.cell 1
        have cG52 : V1.cell? ⟨K5, 2, none⟩ = some (.int .i64 (-E * c)) := G5.out.cell 2
        have cG53 : V1.cell? ⟨K5, 3, none⟩ = some (.int .i64 (E * a)) := G5.out.cell 3
        have cG54 : V1.cell? ⟨K5, 4, none⟩ = some (.int .i64 0) := G5.out.cell 4
        have cG55 : V1.cell? ⟨K5, 5, none⟩ = some (.int .i64 0) := G5.out.cell 5
        go_wp2_with fail
        refine (CG.out _).mono ?_
        rintro e w2 ⟨rfl, hb2⟩
        clear cG00 cG01 cG02 cG03 cG04 cG05 cG10 cG11 cG12 cG13 cG14 cG15 cG50 cG51 cG52 cG53 cG54 cG55
        replace G0 := Lib.hid (G0.out.below hb2 G0.out.lt)
        replace G1 := Lib.hid (G1.out.below hb2 G1.out.lt)
        replace G5 := Lib.hid (G5.out.below hb2 G5.out.lt)
        replace B := Lib.hid (bvia B.out hb2)
        clear hb2
        have cG50 : w2.cell? ⟨K5, 0, none⟩ = some (.int .i64 (E * d)) := G5.out.cell 0
        have fG50 : w2.frozen? ⟨K5, 0, none⟩ = false := G5.out.free 0
        have cG51 : w2.cell? ⟨K5, 1, none⟩ = some (.int .i64 (-E * b)) := G5.out.cell 1
        have fG51 : w2.frozen? ⟨K5, 1, none⟩ = false := G5.out.free 1
        have cG52 : w2.cell? ⟨K5, 2, none⟩ = some (.int .i64 (-E * c)) := G5.out.cell 2
        have fG52 : w2.frozen? ⟨K5, 2, none⟩ = false := G5.out.free 2
        have cG53 : w2.cell? ⟨K5, 3, none⟩ = some (.int .i64 (E * a)) := G5.out.cell 3
        have fG53 : w2.frozen? ⟨K5, 3, none⟩ = false := G5.out.free 3
        have cG54 : w2.cell? ⟨K5, 4, none⟩ = some (.int .i64 0) := G5.out.cell 4
        have fG54 : w2.frozen? ⟨K5, 4, none⟩ = false := G5.out.free 4
        have cG55 : w2.cell? ⟨K5, 5, none⟩ = some (.int .i64 0) := G5.out.cell 5
        have fG55 : w2.frozen? ⟨K5, 5, none⟩ = false := G5.out.free 5
        go_upto_region 8 with (fail)
        clear cG50 fG50 cG51 fG51 cG52 fG52 cG53 fG53 cG54 fG54 cG55 fG55
        have D1 := Lib.hid ((Below.refl w2.heap.size w2).alloc (Nat.le_refl _) (.cells #[.int .i64 X, .int .i64 Y] 25))
        have G6 : Hid (Has (w2.alloc (.cells #[.int .i64 X, .int .i64 Y] 25)) w2.heap.size 25 [.int .i64 X, .int .i64 Y]) := Has.new rfl
        have hK6 : K5 < w2.heap.size := G5.out.lt
        replace G1 := Lib.hid (G1.out.below D1.out G1.out.lt)
        replace G5 := Lib.hid (G5.out.below D1.out G5.out.lt)
        replace B := Lib.hid (bvia B.out D1.out)
        clear D1 G0
        generalize w2.alloc (.cells #[.int .i64 X, .int .i64 Y] 25) = V2 at *
        generalize w2.heap.size = K6 at *
        have cG10 : V2.cell? ⟨w.heap.size + 1, 0, none⟩ = some (.int .i64 0) := G1.out.cell 0
        have cG11 : V2.cell? ⟨w.heap.size + 1, 1, none⟩ = some (.int .i64 0) := G1.out.cell 1
        have cG12 : V2.cell? ⟨w.heap.size + 1, 2, none⟩ = some (.int .i64 0) := G1.out.cell 2
        have cG13 : V2.cell? ⟨w.heap.size + 1, 3, none⟩ = some (.int .i64 0) := G1.out.cell 3
        have cG14 : V2.cell? ⟨w.heap.size + 1, 4, none⟩ = some (.int .i64 0) := G1.out.cell 4
        have cG15 : V2.cell? ⟨w.heap.size + 1, 5, none⟩ = some (.int .i64 0) := G1.out.cell 5
        have cG50 : V2.cell? ⟨K5, 0, none⟩ = some (.int .i64 (E * d)) := G5.out.cell 0
        have fG50 : V2.frozen? ⟨K5, 0, none⟩ = false := G5.out.free 0
        have cG51 : V2.cell? ⟨K5, 1, none⟩ = some (.int .i64 (-E * b)) := G5.out.cell 1
        have fG51 : V2.frozen? ⟨K5, 1, none⟩ = false := G5.out.free 1
        have cG52 : V2.cell? ⟨K5, 2, none⟩ = some (.int .i64 (-E * c)) := G5.out.cell 2
        have fG52 : V2.frozen? ⟨K5, 2, none⟩ = false := G5.out.free 2
        have cG53 : V2.cell? ⟨K5, 3, none⟩ = some (.int .i64 (E * a)) := G5.out.cell 3
        have fG53 : V2.frozen? ⟨K5, 3, none⟩ = false := G5.out.free 3
        have cG54 : V2.cell? ⟨K5, 4, none⟩ = some (.int .i64 0) := G5.out.cell 4
        have fG54 : V2.frozen? ⟨K5, 4, none⟩ = false := G5.out.free 4
        have cG55 : V2.cell? ⟨K5, 5, none⟩ = some (.int .i64 0) := G5.out.cell 5
        have fG55 : V2.frozen? ⟨K5, 5, none⟩ = false := G5.out.free 5
        have cG60 : V2.cell? ⟨K6, 0, none⟩ = some (.int .i64 X) := G6.out.cell 0
        have cG61 : V2.cell? ⟨K6, 1, none⟩ = some (.int .i64 Y) := G6.out.cell 1
        go_upto_region 9 with (fail)
        clear cG10 cG11 cG12 cG13 cG14 cG15 cG50 fG50 cG51 fG51 cG52 fG52 cG53 fG53 cG54 fG54 cG55 fG55 cG60 cG61
        replace G5 : Hid (Has ((V2.setCell ⟨K5, 4, none⟩ (.int .i64 (-X))).setCell ⟨K5, 5, none⟩ (.int .i64 (-Y))) K5 58 [.int .i64 (E * d), .int .i64 (-E * b), .int .i64 (-E * c), .int .i64 (E * a), .int .i64 (-X), .int .i64 (-Y)]) := (G5.out.set 4 (.int .i64 (-X))).set 5 (.int .i64 (-Y))
        replace G1 : Hid (Has ((V2.setCell ⟨K5, 4, none⟩ (.int .i64 (-X))).setCell ⟨K5, 5, none⟩ (.int .i64 (-Y))) (w.heap.size + 1) 58 [.int .i64 0, .int .i64 0, .int .i64 0, .int .i64 0, .int .i64 0, .int .i64 0]) := (G1.out.far (by omega) 4 _).far (by omega) 5 _
        replace B := Lib.hid ((B.out.setCell (p := ⟨K5, 4, none⟩) (show w.heap.size ≤ K5 by omega) (.int .i64 (-X))).setCell (p := ⟨K5, 5, none⟩) (show w.heap.size ≤ K5 by omega) (.int .i64 (-Y)))
        clear G6
        generalize (V2.setCell ⟨K5, 4, none⟩ (.int .i64 (-X))).setCell ⟨K5, 5, none⟩ (.int .i64 (-Y)) = V3 at *
        have cG50 : V3.cell? ⟨K5, 0, none⟩ = some (.int .i64 (E * d)) := G5.out.cell 0
        have cG51 : V3.cell? ⟨K5, 1, none⟩ = some (.int .i64 (-E * b)) := G5.out.cell 1
        have cG52 : V3.cell? ⟨K5, 2, none⟩ = some (.int .i64 (-E * c)) := G5.out.cell 2
        have cG53 : V3.cell? ⟨K5, 3, none⟩ = some (.int .i64 (E * a)) := G5.out.cell 3
        have cG54 : V3.cell? ⟨K5, 4, none⟩ = some (.int .i64 (-X)) := G5.out.cell 4
        have cG55 : V3.cell? ⟨K5, 5, none⟩ = some (.int .i64 (-Y)) := G5.out.cell 5
        go_wp2_with fail
        refine (CV.out _).mono ?_
        rintro e w3 ⟨rfl, hb3⟩
        clear cG50 cG51 cG52 cG53 cG54 cG55
        replace G1 := Lib.hid (G1.out.below hb3 G1.out.lt)
        replace G5 := Lib.hid (G5.out.below hb3 G5.out.lt)
        replace B := Lib.hid (bvia B.out hb3)
        clear hb3
        have cG10 : w3.cell? ⟨w.heap.size + 1, 0, none⟩ = some (.int .i64 0) := G1.out.cell 0
        have fG10 : w3.frozen? ⟨w.heap.size + 1, 0, none⟩ = false := G1.out.free 0
        have cG11 : w3.cell? ⟨w.heap.size + 1, 1, none⟩ = some (.int .i64 0) := G1.out.cell 1
        have fG11 : w3.frozen? ⟨w.heap.size + 1, 1, none⟩ = false := G1.out.free 1
        have cG12 : w3.cell? ⟨w.heap.size + 1, 2, none⟩ = some (.int .i64 0) := G1.out.cell 2
        have fG12 : w3.frozen? ⟨w.heap.size + 1, 2, none⟩ = false := G1.out.free 2
        have cG13 : w3.cell? ⟨w.heap.size + 1, 3, none⟩ = some (.int .i64 0) := G1.out.cell 3
        have fG13 : w3.frozen? ⟨w.heap.size + 1, 3, none⟩ = false := G1.out.free 3
        have cG14 : w3.cell? ⟨w.heap.size + 1, 4, none⟩ = some (.int .i64 0) := G1.out.cell 4
        have fG14 : w3.frozen? ⟨w.heap.size + 1, 4, none⟩ = false := G1.out.free 4
        have cG15 : w3.cell? ⟨w.heap.size + 1, 5, none⟩ = some (.int .i64 0) := G1.out.cell 5
        have fG15 : w3.frozen? ⟨w.heap.size + 1, 5, none⟩ = false := G1.out.free 5
        go_wp2
        refine post_cell_tmp (g := w.heap.size + 1) (t := 58) (cs := [.int .i64 0, .int .i64 0, .int .i64 0, .int .i64 0, .int .i64 0, .int .i64 0]) (v := .int .i64 7) ?_ Try.results40 rfl rfl rfl Try.underlying58 (by kernel_rfl) ⟨rfl, ?_⟩
        · exact ((((((G1.out.set 0 _).set 1 _).set 2 _).set 3 _).set 4 _).set 5 _)
        · exact ((((((B.out.setCell (p := ⟨w.heap.size + 1, 0, none⟩) (show w.heap.size ≤ w.heap.size + 1 by omega) _).setCell (p := ⟨w.heap.size + 1, 1, none⟩) (show w.heap.size ≤ w.heap.size + 1 by omega) _).setCell (p := ⟨w.heap.size + 1, 2, none⟩) (show w.heap.size ≤ w.heap.size + 1 by omega) _).setCell (p := ⟨w.heap.size + 1, 3, none⟩) (show w.heap.size ≤ w.heap.size + 1 by omega) _).setCell (p := ⟨w.heap.size + 1, 4, none⟩) (show w.heap.size ≤ w.heap.size + 1 by omega) _).setCell (p := ⟨w.heap.size + 1, 5, none⟩) (show w.heap.size ≤ w.heap.size + 1 by omega) _)
      | true =>
        rw [hO] at CV
        rw [if_pos rfl]
        clear hO
        have G0 : Hid (Has (boxW w [([.int .i64 a, .int .i64 b, .int .i64 c, .int .i64 d, .int .i64 u, .int .i64 v], 58), ([.int .i64 0, .int .i64 0, .int .i64 0, .int .i64 0, .int .i64 0, .int .i64 0], 58)]) (w.heap.size) 58 [.int .i64 a, .int .i64 b, .int .i64 c, .int .i64 d, .int .i64 u, .int .i64 v]) := box_has [([.int .i64 a, .int .i64 b, .int .i64 c, .int .i64 d, .int .i64 u, .int .i64 v], 58), ([.int .i64 0, .int .i64 0, .int .i64 0, .int .i64 0, .int .i64 0, .int .i64 0], 58)] (w := w) (Below.refl _ _) (i := 0) rfl
        have G1 : Hid (Has (boxW w [([.int .i64 a, .int .i64 b, .int .i64 c, .int .i64 d, .int .i64 u, .int .i64 v], 58), ([.int .i64 0, .int .i64 0, .int .i64 0, .int .i64 0, .int .i64 0, .int .i64 0], 58)]) (w.heap.size + 1) 58 [.int .i64 0, .int .i64 0, .int .i64 0, .int .i64 0, .int .i64 0, .int .i64 0]) := box_has [([.int .i64 a, .int .i64 b, .int .i64 c, .int .i64 d, .int .i64 u, .int .i64 v], 58), ([.int .i64 0, .int .i64 0, .int .i64 0, .int .i64 0, .int .i64 0, .int .i64 0], 58)] (w := w) (Below.refl _ _) (i := 1) rfl
        have B := Lib.hid (boxW_below [([.int .i64 a, .int .i64 b, .int .i64 c, .int .i64 d, .int .i64 u, .int .i64 v], 58), ([.int .i64 0, .int .i64 0, .int .i64 0, .int .i64 0, .int .i64 0, .int .i64 0], 58)] w)
        obtain ⟨W1, hW1⟩ : ∃ W1, W1 = boxW w [([.int .i64 a, .int .i64 b, .int .i64 c, .int .i64 d, .int .i64 u, .int .i64 v], 58), ([.int .i64 0, .int .i64 0, .int .i64 0, .int .i64 0, .int .i64 0, .int .i64 0], 58)] := ⟨_, rfl⟩
        rw [← hW1] at G0 G1 B
        go_enter Try.func40, Try.ntmps40
        go_upto_region 1 with (fail)
        rw [show (w.alloc (.cells #[.int .i64 a, .int .i64 b, .int .i64 c, .int .i64 d, .int .i64 u, .int .i64 v] 58)).alloc (.cells #[.int .i64 0, .int .i64 0, .int .i64 0, .int .i64 0, .int .i64 0, .int .i64 0] 58) = W1 from hW1.symm]
        clear hW1
        have cG00 : W1.cell? ⟨w.heap.size, 0, none⟩ = some (.int .i64 a) := G0.out.cell 0
        have cG01 : W1.cell? ⟨w.heap.size, 1, none⟩ = some (.int .i64 b) := G0.out.cell 1
        have cG02 : W1.cell? ⟨w.heap.size, 2, none⟩ = some (.int .i64 c) := G0.out.cell 2
        have cG03 : W1.cell? ⟨w.heap.size, 3, none⟩ = some (.int .i64 d) := G0.out.cell 3
        have cG04 : W1.cell? ⟨w.heap.size, 4, none⟩ = some (.int .i64 u) := G0.out.cell 4
        have cG05 : W1.cell? ⟨w.heap.size, 5, none⟩ = some (.int .i64 v) := G0.out.cell 5
        have cG10 : W1.cell? ⟨w.heap.size + 1, 0, none⟩ = some (.int .i64 0) := G1.out.cell 0
        have cG11 : W1.cell? ⟨w.heap.size + 1, 1, none⟩ = some (.int .i64 0) := G1.out.cell 1
        have cG12 : W1.cell? ⟨w.heap.size + 1, 2, none⟩ = some (.int .i64 0) := G1.out.cell 2
        have cG13 : W1.cell? ⟨w.heap.size + 1, 3, none⟩ = some (.int .i64 0) := G1.out.cell 3
        have cG14 : W1.cell? ⟨w.heap.size + 1, 4, none⟩ = some (.int .i64 0) := G1.out.cell 4
        have cG15 : W1.cell? ⟨w.heap.size + 1, 5, none⟩ = some (.int .i64 0) := G1.out.cell 5
        go_wp2_with fail
        refine (CM.out _).mono ?_
        rintro e w1 ⟨rfl, hb1⟩
        clear cG00 cG01 cG02 cG03 cG04 cG05 cG10 cG11 cG12 cG13 cG14 cG15
        replace G0 := Lib.hid (G0.out.below hb1 G0.out.lt)
        replace G1 := Lib.hid (G1.out.below hb1 G1.out.lt)
        replace B := Lib.hid (bvia B.out hb1)
        clear hb1
        have cG00 : w1.cell? ⟨w.heap.size, 0, none⟩ = some (.int .i64 a) := G0.out.cell 0
        have cG01 : w1.cell? ⟨w.heap.size, 1, none⟩ = some (.int .i64 b) := G0.out.cell 1
        have cG02 : w1.cell? ⟨w.heap.size, 2, none⟩ = some (.int .i64 c) := G0.out.cell 2
        have cG03 : w1.cell? ⟨w.heap.size, 3, none⟩ = some (.int .i64 d) := G0.out.cell 3
        have cG04 : w1.cell? ⟨w.heap.size, 4, none⟩ = some (.int .i64 u) := G0.out.cell 4
        have cG05 : w1.cell? ⟨w.heap.size, 5, none⟩ = some (.int .i64 v) := G0.out.cell 5
        have cG10 : w1.cell? ⟨w.heap.size + 1, 0, none⟩ = some (.int .i64 0) := G1.out.cell 0
        have cG11 : w1.cell? ⟨w.heap.size + 1, 1, none⟩ = some (.int .i64 0) := G1.out.cell 1
        have cG12 : w1.cell? ⟨w.heap.size + 1, 2, none⟩ = some (.int .i64 0) := G1.out.cell 2
        have cG13 : w1.cell? ⟨w.heap.size + 1, 3, none⟩ = some (.int .i64 0) := G1.out.cell 3
        have cG14 : w1.cell? ⟨w.heap.size + 1, 4, none⟩ = some (.int .i64 0) := G1.out.cell 4
        have cG15 : w1.cell? ⟨w.heap.size + 1, 5, none⟩ = some (.int .i64 0) := G1.out.cell 5
        go_upto_region 4 with (fail)
        rw [← HE.out]
        clear e1 e2 e3
        have Q1 : Hid (w.heap.size + 1 < w1.heap.size) := G1.out.lt
        go_upto_region 6 with (fail)
        go_upto_region 7 with (fail)
        clear cG00 cG01 cG02 cG03 cG04 cG05 cG10 cG11 cG12 cG13 cG14 cG15
        have D1 := Lib.hid ((Below.refl w1.heap.size w1).alloc (Nat.le_refl _) (.cells #[.int .i64 (E * d), .int .i64 (-E * b), .int .i64 (-E * c), .int .i64 (E * a), .int .i64 0, .int .i64 0] 58))
        have G5 : Hid (Has (w1.alloc (.cells #[.int .i64 (E * d), .int .i64 (-E * b), .int .i64 (-E * c), .int .i64 (E * a), .int .i64 0, .int .i64 0] 58)) w1.heap.size 58 [.int .i64 (E * d), .int .i64 (-E * b), .int .i64 (-E * c), .int .i64 (E * a), .int .i64 0, .int .i64 0]) := Has.new rfl
        replace G0 := Lib.hid (G0.out.below D1.out G0.out.lt)
        replace G1 := Lib.hid (G1.out.below D1.out G1.out.lt)
        replace B := Lib.hid (bvia B.out D1.out)
        have hK : w.heap.size + 1 < w1.heap.size := by have := Q1.out; omega
        clear D1
        generalize w1.alloc (.cells #[.int .i64 (E * d), .int .i64 (-E * b), .int .i64 (-E * c), .int .i64 (E * a), .int .i64 0, .int .i64 0] 58) = V1 at *
        generalize w1.heap.size = K5 at *
        have cG00 : V1.cell? ⟨w.heap.size, 0, none⟩ = some (.int .i64 a) := G0.out.cell 0
        have cG01 : V1.cell? ⟨w.heap.size, 1, none⟩ = some (.int .i64 b) := G0.out.cell 1
        have cG02 : V1.cell? ⟨w.heap.size, 2, none⟩ = some (.int .i64 c) := G0.out.cell 2
        have cG03 : V1.cell? ⟨w.heap.size, 3, none⟩ = some (.int .i64 d) := G0.out.cell 3
        have cG04 : V1.cell? ⟨w.heap.size, 4, none⟩ = some (.int .i64 u) := G0.out.cell 4
        have cG05 : V1.cell? ⟨w.heap.size, 5, none⟩ = some (.int .i64 v) := G0.out.cell 5
        have cG10 : V1.cell? ⟨w.heap.size + 1, 0, none⟩ = some (.int .i64 0) := G1.out.cell 0
        have cG11 : V1.cell? ⟨w.heap.size + 1, 1, none⟩ = some (.int .i64 0) := G1.out.cell 1
        have cG12 : V1.cell? ⟨w.heap.size + 1, 2, none⟩ = some (.int .i64 0) := G1.out.cell 2
        have cG13 : V1.cell? ⟨w.heap.size + 1, 3, none⟩ = some (.int .i64 0) := G1.out.cell 3
        have cG14 : V1.cell? ⟨w.heap.size + 1, 4, none⟩ = some (.int .i64 0) := G1.out.cell 4
        have cG15 : V1.cell? ⟨w.heap.size + 1, 5, none⟩ = some (.int .i64 0) := G1.out.cell 5
        have cG50 : V1.cell? ⟨K5, 0, none⟩ = some (.int .i64 (E * d)) := G5.out.cell 0
        have cG51 : V1.cell? ⟨K5, 1, none⟩ = some (.int .i64 (-E * b)) := G5.out.cell 1
        have cG52 : V1.cell? ⟨K5, 2, none⟩ = some (.int .i64 (-E * c)) := G5.out.cell 2
        have cG53 : V1.cell? ⟨K5, 3, none⟩ = some (.int .i64 (E * a)) := G5.out.cell 3
        have cG54 : V1.cell? ⟨K5, 4, none⟩ = some (.int .i64 0) := G5.out.cell 4
        have cG55 : V1.cell? ⟨K5, 5, none⟩ = some (.int .i64 0) := G5.out.cell 5
        go_wp2_with fail
        refine (CG.out _).mono ?_
        rintro e w2 ⟨rfl, hb2⟩
        clear cG00 cG01 cG02 cG03 cG04 cG05 cG10 cG11 cG12 cG13 cG14 cG15 cG50 cG51 cG52 cG53 cG54 cG55
        replace G0 := Lib.hid (G0.out.below hb2 G0.out.lt)
        replace G1 := Lib.hid (G1.out.below hb2 G1.out.lt)
        replace G5 := Lib.hid (G5.out.below hb2 G5.out.lt)
        replace B := Lib.hid (bvia B.out hb2)
        clear hb2
        have cG50 : w2.cell? ⟨K5, 0, none⟩ = some (.int .i64 (E * d)) := G5.out.cell 0
        have fG50 : w2.frozen? ⟨K5, 0, none⟩ = false := G5.out.free 0
        have cG51 : w2.cell? ⟨K5, 1, none⟩ = some (.int .i64 (-E * b)) := G5.out.cell 1
        have fG51 : w2.frozen? ⟨K5, 1, none⟩ = false := G5.out.free 1
        have cG52 : w2.cell? ⟨K5, 2, none⟩ = some (.int .i64 (-E * c)) := G5.out.cell 2
        have fG52 : w2.frozen? ⟨K5, 2, none⟩ = false := G5.out.free 2
        have cG53 : w2.cell? ⟨K5, 3, none⟩ = some (.int .i64 (E * a)) := G5.out.cell 3
        have fG53 : w2.frozen? ⟨K5, 3, none⟩ = false := G5.out.free 3
        have cG54 : w2.cell? ⟨K5, 4, none⟩ = some (.int .i64 0) := G5.out.cell 4
        have fG54 : w2.frozen? ⟨K5, 4, none⟩ = false := G5.out.free 4
        have cG55 : w2.cell? ⟨K5, 5, none⟩ = some (.int .i64 0) := G5.out.cell 5
        have fG55 : w2.frozen? ⟨K5, 5, none⟩ = false := G5.out.free 5
        go_upto_region 8 with (fail)
        clear cG50 fG50 cG51 fG51 cG52 fG52 cG53 fG53 cG54 fG54 cG55 fG55
        have D1 := Lib.hid ((Below.refl w2.heap.size w2).alloc (Nat.le_refl _) (.cells #[.int .i64 X, .int .i64 Y] 25))
        have G6 : Hid (Has (w2.alloc (.cells #[.int .i64 X, .int .i64 Y] 25)) w2.heap.size 25 [.int .i64 X, .int .i64 Y]) := Has.new rfl
        have hK6 : K5 < w2.heap.size := G5.out.lt
        replace G1 := Lib.hid (G1.out.below D1.out G1.out.lt)
        replace G5 := Lib.hid (G5.out.below D1.out G5.out.lt)
        replace B := Lib.hid (bvia B.out D1.out)
        clear D1 G0
        generalize w2.alloc (.cells #[.int .i64 X, .int .i64 Y] 25) = V2 at *
        generalize w2.heap.size = K6 at *
        have cG10 : V2.cell? ⟨w.heap.size + 1, 0, none⟩ = some (.int .i64 0) := G1.out.cell 0
        have cG11 : V2.cell? ⟨w.heap.size + 1, 1, none⟩ = some (.int .i64 0) := G1.out.cell 1
        have cG12 : V2.cell? ⟨w.heap.size + 1, 2, none⟩ = some (.int .i64 0) := G1.out.cell 2
        have cG13 : V2.cell? ⟨w.heap.size + 1, 3, none⟩ = some (.int .i64 0) := G1.out.cell 3
        have cG14 : V2.cell? ⟨w.heap.size + 1, 4, none⟩ = some (.int .i64 0) := G1.out.cell 4
        have cG15 : V2.cell? ⟨w.heap.size + 1, 5, none⟩ = some (.int .i64 0) := G1.out.cell 5
        have cG50 : V2.cell? ⟨K5, 0, none⟩ = some (.int .i64 (E * d)) := G5.out.cell 0
        have fG50 : V2.frozen? ⟨K5, 0, none⟩ = false := G5.out.free 0
        have cG51 : V2.cell? ⟨K5, 1, none⟩ = some (.int .i64 (-E * b)) := G5.out.cell 1
        have fG51 : V2.frozen? ⟨K5, 1, none⟩ = false := G5.out.free 1
        have cG52 : V2.cell? ⟨K5, 2, none⟩ = some (.int .i64 (-E * c)) := G5.out.cell 2
        have fG52 : V2.frozen? ⟨K5, 2, none⟩ = false := G5.out.free 2
        have cG53 : V2.cell? ⟨K5, 3, none⟩ = some (.int .i64 (E * a)) := G5.out.cell 3
        have fG53 : V2.frozen? ⟨K5, 3, none⟩ = false := G5.out.free 3
        have cG54 : V2.cell? ⟨K5, 4, none⟩ = some (.int .i64 0) := G5.out.cell 4
        have fG54 : V2.frozen? ⟨K5, 4, none⟩ = false := G5.out.free 4
        have cG55 : V2.cell? ⟨K5, 5, none⟩ = some (.int .i64 0) := G5.out.cell 5
        have fG55 : V2.frozen? ⟨K5, 5, none⟩ = false := G5.out.free 5
        have cG60 : V2.cell? ⟨K6, 0, none⟩ = some (.int .i64 X) := G6.out.cell 0
        have cG61 : V2.cell? ⟨K6, 1, none⟩ = some (.int .i64 Y) := G6.out.cell 1
        go_upto_region 9 with (fail)
        clear cG10 cG11 cG12 cG13 cG14 cG15 cG50 fG50 cG51 fG51 cG52 fG52 cG53 fG53 cG54 fG54 cG55 fG55 cG60 cG61
        replace G5 : Hid (Has ((V2.setCell ⟨K5, 4, none⟩ (.int .i64 (-X))).setCell ⟨K5, 5, none⟩ (.int .i64 (-Y))) K5 58 [.int .i64 (E * d), .int .i64 (-E * b), .int .i64 (-E * c), .int .i64 (E * a), .int .i64 (-X), .int .i64 (-Y)]) := (G5.out.set 4 (.int .i64 (-X))).set 5 (.int .i64 (-Y))
        replace G1 : Hid (Has ((V2.setCell ⟨K5, 4, none⟩ (.int .i64 (-X))).setCell ⟨K5, 5, none⟩ (.int .i64 (-Y))) (w.heap.size + 1) 58 [.int .i64 0, .int .i64 0, .int .i64 0, .int .i64 0, .int .i64 0, .int .i64 0]) := (G1.out.far (by omega) 4 _).far (by omega) 5 _
        replace B := Lib.hid ((B.out.setCell (p := ⟨K5, 4, none⟩) (show w.heap.size ≤ K5 by omega) (.int .i64 (-X))).setCell (p := ⟨K5, 5, none⟩) (show w.heap.size ≤ K5 by omega) (.int .i64 (-Y)))
        clear G6
        generalize (V2.setCell ⟨K5, 4, none⟩ (.int .i64 (-X))).setCell ⟨K5, 5, none⟩ (.int .i64 (-Y)) = V3 at *
        have cG50 : V3.cell? ⟨K5, 0, none⟩ = some (.int .i64 (E * d)) := G5.out.cell 0
        have cG51 : V3.cell? ⟨K5, 1, none⟩ = some (.int .i64 (-E * b)) := G5.out.cell 1
        have cG52 : V3.cell? ⟨K5, 2, none⟩ = some (.int .i64 (-E * c)) := G5.out.cell 2
        have cG53 : V3.cell? ⟨K5, 3, none⟩ = some (.int .i64 (E * a)) := G5.out.cell 3
        have cG54 : V3.cell? ⟨K5, 4, none⟩ = some (.int .i64 (-X)) := G5.out.cell 4
        have cG55 : V3.cell? ⟨K5, 5, none⟩ = some (.int .i64 (-Y)) := G5.out.cell 5
        go_wp2_with fail
        refine (CV.out _).mono ?_
        rintro e w3 ⟨rfl, hb3⟩
        clear cG50 cG51 cG52 cG53 cG54 cG55
        replace G1 := Lib.hid (G1.out.below hb3 G1.out.lt)
        replace G5 := Lib.hid (G5.out.below hb3 G5.out.lt)
        replace B := Lib.hid (bvia B.out hb3)
        clear hb3
        have cG10 : w3.cell? ⟨w.heap.size + 1, 0, none⟩ = some (.int .i64 0) := G1.out.cell 0
        have fG10 : w3.frozen? ⟨w.heap.size + 1, 0, none⟩ = false := G1.out.free 0
        have cG11 : w3.cell? ⟨w.heap.size + 1, 1, none⟩ = some (.int .i64 0) := G1.out.cell 1
        have fG11 : w3.frozen? ⟨w.heap.size + 1, 1, none⟩ = false := G1.out.free 1
        have cG12 : w3.cell? ⟨w.heap.size + 1, 2, none⟩ = some (.int .i64 0) := G1.out.cell 2
        have fG12 : w3.frozen? ⟨w.heap.size + 1, 2, none⟩ = false := G1.out.free 2
        have cG13 : w3.cell? ⟨w.heap.size + 1, 3, none⟩ = some (.int .i64 0) := G1.out.cell 3
        have fG13 : w3.frozen? ⟨w.heap.size + 1, 3, none⟩ = false := G1.out.free 3
        have cG14 : w3.cell? ⟨w.heap.size + 1, 4, none⟩ = some (.int .i64 0) := G1.out.cell 4
        have fG14 : w3.frozen? ⟨w.heap.size + 1, 4, none⟩ = false := G1.out.free 4
        have cG15 : w3.cell? ⟨w.heap.size + 1, 5, none⟩ = some (.int .i64 0) := G1.out.cell 5
        have fG15 : w3.frozen? ⟨w.heap.size + 1, 5, none⟩ = false := G1.out.free 5
        have cG50 : w3.cell? ⟨K5, 0, none⟩ = some (.int .i64 (E * d)) := G5.out.cell 0
        have cG51 : w3.cell? ⟨K5, 1, none⟩ = some (.int .i64 (-E * b)) := G5.out.cell 1
        have cG52 : w3.cell? ⟨K5, 2, none⟩ = some (.int .i64 (-E * c)) := G5.out.cell 2
        have cG53 : w3.cell? ⟨K5, 3, none⟩ = some (.int .i64 (E * a)) := G5.out.cell 3
        have cG54 : w3.cell? ⟨K5, 4, none⟩ = some (.int .i64 (-X)) := G5.out.cell 4
        have cG55 : w3.cell? ⟨K5, 5, none⟩ = some (.int .i64 (-Y)) := G5.out.cell 5
        go_wp2
        refine post_cell_tmp (g := w.heap.size + 1) (t := 58) (cs := [.int .i64 (E * d), .int .i64 (-E * b), .int .i64 (-E * c), .int .i64 (E * a), .int .i64 (-X), .int .i64 (-Y)]) (v := .int .i64 0) ?_ Try.results40 rfl rfl rfl Try.underlying58 (by kernel_rfl) ⟨rfl, ?_⟩
        · exact ((((((G1.out.set 0 _).set 1 _).set 2 _).set 3 _).set 4 _).set 5 _)
        · exact ((((((B.out.setCell (p := ⟨w.heap.size + 1, 0, none⟩) (show w.heap.size ≤ w.heap.size + 1 by omega) _).setCell (p := ⟨w.heap.size + 1, 1, none⟩) (show w.heap.size ≤ w.heap.size + 1 by omega) _).setCell (p := ⟨w.heap.size + 1, 2, none⟩) (show w.heap.size ≤ w.heap.size + 1 by omega) _).setCell (p := ⟨w.heap.size + 1, 3, none⟩) (show w.heap.size ≤ w.heap.size + 1 by omega) _).setCell (p := ⟨w.heap.size + 1, 4, none⟩) (show w.heap.size ≤ w.heap.size + 1 by omega) _).setCell (p := ⟨w.heap.size + 1, 5, none⟩) (show w.heap.size ≤ w.heap.size + 1 by omega) _)
end Go.Proofs.Ytmghpaibdgkbfaa
