/-
  Contract of chapter 6: the document's Reduced.
-/
import Derived.Test.YtmghpaibdgkbfaaVB1
import Derived.Test.YtmghpaibdgkbfaaVB6
import Derived.Test.YtmghpaibdgkbfaaVB8
import Derived.Test.YtmghpaibdgkbfaaVB12
import Derived.Test.YtmghpaibdgkbfaaVB13
import Derived.Deep.CutRange
import Derived.Lib.SmallJoins
import Derived.Deep.Slices
import Derived.Deep.Strs
import Derived.OpenShut
import Derived.Carry
namespace Go.Proofs.Ytmghpaibdgkbfaa
open Go.RowKit
namespace La
theorem St.sub {l0 l : Lat} {m : Mat} (h : St l0 l m) (h1 : l.a < 2 * l.b) : St l0 ⟨l.a, l.b - l.a, l.c - 2 * l.b + l.a⟩ (mul m (shear 1)) := by
  have e : stepB l 1 = ⟨l.a, l.b - l.a, l.c - 2 * l.b + l.a⟩ := by unfold stepB; simp
  have hd : 1 ≤ ld (stepB l 1) := by rw [ld_stepB]; exact h.v.d1
  have hc : 1 ≤ (stepB l 1).c := by
    refine Int.not_lt.1 fun h2 => ?_
    have h3 : (stepB l 1).a = l.a := rfl
    have h4 := h.v.a1
    have h5 := sq_nn (stepB l 1).b
    have h6 := Int.mul_nonneg (show 0 ≤ l.a by omega) (show 0 ≤ -(stepB l 1).c by omega)
    unfold ld at hd
    rw [h3] at hd
    rw [Int.mul_neg] at h6
    omega
  rw [← e]
  refine ⟨by rw [lead_mul, h.e, lead_shear], unit_mul h.u (unit_shear 1), ⟨h.v.a1, hc, hd⟩, h.ba, ?_⟩
  rw [e]
  have := h.bc
  show l.c - 2 * l.b + l.a ≤ 10000
  omega
end La
def negAt (w : World) (b o : Nat) : Nat := match w.cell? ⟨b, o, none⟩ with | some (.int _ q) => if q < 0 then 1 else 0 | _ => 0
theorem negAt_eq {w : World} {b o : Nat} {q : Int} (h : w.cell? ⟨b, o, none⟩ = some (.int .i64 q)) : negAt w b o = if q < 0 then 1 else 0 := by unfold negAt; rw [h]
def redAt (w : World) (b : Nat) : Nat := (natAt w b 0 + natAt w b 2) * 30000 + natAt w b 0 * 2 + negAt w b 1
theorem redAt_eq {w : World} {b : Nat} {x y z : Int} (h : Has w b 23 [.int .i64 x, .int .i64 y, .int .i64 z]) : redAt w b = (x.toNat + z.toNat) * 30000 + x.toNat * 2 + (if y < 0 then 1 else 0) := by
  unfold redAt
  rw [natAt_eq (h.cell 0), natAt_eq (h.cell 2), negAt_eq (h.cell 1)]
set_option maxRecDepth 100000 in
set_option maxHeartbeats 4000000 in
theorem reducedC (a b c : Int) (w : World) (h : okL a b c = true) : Calls Try.prog 68 #[vL a b c] w fun e w' => (∃ (l : La.Lat) (m : La.Mat), La.St ⟨a, b, c⟩ l m ∧ La.Red l ∧ e = .returned (vL l.a l.b l.c)) ∧ Below w.heap.size w w' := by
  obtain ⟨hv, hA, hC⟩ := okL_val h
  have ST0 := Lib.hid (La.St.start hv hA hC)
  clear h hv hA hC
  have G0 : Hid (Has (boxW w [([.int .i64 a, .int .i64 b, .int .i64 c], 23), ([.int .i64 0, .int .i64 0, .int .i64 0], 23)]) (w.heap.size) 23 [.int .i64 a, .int .i64 b, .int .i64 c]) := box_has [([.int .i64 a, .int .i64 b, .int .i64 c], 23), ([.int .i64 0, .int .i64 0, .int .i64 0], 23)] (w := w) (Below.refl _ _) (i := 0) rfl
  have G1 : Hid (Has (boxW w [([.int .i64 a, .int .i64 b, .int .i64 c], 23), ([.int .i64 0, .int .i64 0, .int .i64 0], 23)]) (w.heap.size + 1) 23 [.int .i64 0, .int .i64 0, .int .i64 0]) := box_has [([.int .i64 a, .int .i64 b, .int .i64 c], 23), ([.int .i64 0, .int .i64 0, .int .i64 0], 23)] (w := w) (Below.refl _ _) (i := 1) rfl
  have B := Lib.hid (boxW_below [([.int .i64 a, .int .i64 b, .int .i64 c], 23), ([.int .i64 0, .int .i64 0, .int .i64 0], 23)] w)
  obtain ⟨W1, hW1⟩ : ∃ W1, W1 = boxW w [([.int .i64 a, .int .i64 b, .int .i64 c], 23), ([.int .i64 0, .int .i64 0, .int .i64 0], 23)] := ⟨_, rfl⟩
  rw [← hW1] at G0 G1 B
  go_enter Try.func68, Try.ntmps68
  go_upto_region 1 with (fail)
  rw [show (w.alloc (.cells #[.int .i64 a, .int .i64 b, .int .i64 c] 23)).alloc (.cells #[.int .i64 0, .int .i64 0, .int .i64 0] 23) = W1 from hW1.symm]
  clear hW1
  go_loopw [21] (fun _ wr => ∃ (x y z : Int) (m : La.Mat), Hid (Has wr (w.heap.size) 23 [.int .i64 x, .int .i64 y, .int .i64 z]) ∧ Hid (Has wr (w.heap.size + 1) 23 [.int .i64 0, .int .i64 0, .int .i64 0]) ∧ Hid (Below w.heap.size w wr) ∧ Hid (La.St ⟨a, b, c⟩ ⟨x, y, z⟩ m)) (fun _ wr => redAt wr w.heap.size)
  case atStart => exact ⟨a, b, c, La.one, G0, G1, B, ST0⟩
  case round =>
    clear G0 G1 B ST0
    obtain ⟨x, y, z, m, G0, G1, B, ST⟩ := hrel
    obtain ⟨wo, rfl⟩ : ∃ wo : World, wo = wr := ⟨_, rfl⟩
    have hx1 : 1 ≤ x := ST.out.v.a1
    have hz1 : 1 ≤ z := ST.out.v.c1
    have hx2 : x ≤ 10000 := ST.out.ba
    have hz2 : z ≤ 10000 := ST.out.bc
    have hy : -10000 ≤ y ∧ y ≤ 10000 := ST.out.v.b_lt hx2 hz2
    have HM : Hid (redAt wo w.heap.size = (x.toNat + z.toNat) * 30000 + x.toNat * 2 + (if y < 0 then 1 else 0)) := redAt_eq G0.out
    have i1 : IntKind.i64.wrap (2 * y) = 2 * y := IntWalk.i64_in _ (by omega)
    have i2 : IntKind.i64.wrap (z - 2 * y) = z - 2 * y := IntWalk.i64_in _ (by omega)
    have i3 : IntKind.i64.wrap (z - 2 * y + x) = z - 2 * y + x := IntWalk.i64_in _ (by omega)
    have i4 : IntKind.i64.wrap (y - x) = y - x := IntWalk.i64_in _ (by omega)
    have i5 : IntKind.i64.wrap (-y) = -y := IntWalk.i64_in _ (by omega)
    have c0 : wo.cell? ⟨w.heap.size, 0, none⟩ = some (.int .i64 x) := G0.out.cell 0
    have c1 : wo.cell? ⟨w.heap.size, 1, none⟩ = some (.int .i64 y) := G0.out.cell 1
    have c2 : wo.cell? ⟨w.heap.size, 2, none⟩ = some (.int .i64 z) := G0.out.cell 2
    have f0 : wo.frozen? ⟨w.heap.size, 0, none⟩ = false := G0.out.free 0
    have f1 : wo.frozen? ⟨w.heap.size, 1, none⟩ = false := G0.out.free 1
    have f2 : wo.frozen? ⟨w.heap.size, 2, none⟩ = false := G0.out.free 2
    by_cases hy0 : 0 ≤ y
    · by_cases hyx : 2 * y ≤ x
      · by_cases hxz : x ≤ z
        · have HR : Hid (La.Red ⟨x, y, z⟩) := ⟨hy0, hyx, hxz⟩
          have d1 : decide (0 ≤ y) = true := decide_eq_true (by omega)
          have d2 : decide (2 * y ≤ x) = true := decide_eq_true (by omega)
          have d3 : decide (x ≤ z) = true := decide_eq_true (by omega)
          have g0 : wo.frozen? ⟨w.heap.size + 1, 0, none⟩ = false := G1.out.free 0
          have g1 : wo.frozen? ⟨w.heap.size + 1, 1, none⟩ = false := G1.out.free 1
          have g2 : wo.frozen? ⟨w.heap.size + 1, 2, none⟩ = false := G1.out.free 2
          have z0 : wo.cell? ⟨w.heap.size + 1, 0, none⟩ = some (.int .i64 0) := G1.out.cell 0
          have z1 : wo.cell? ⟨w.heap.size + 1, 1, none⟩ = some (.int .i64 0) := G1.out.cell 1
          have z2 : wo.cell? ⟨w.heap.size + 1, 2, none⟩ = some (.int .i64 0) := G1.out.cell 2
          clear hx1 hz1 hx2 hz2 hy HM hy0 hyx hxz
          go_wp2
          refine post_cell (g := w.heap.size + 1) (t := 23) (cs := [.int .i64 x, .int .i64 y, .int .i64 z]) (((G1.out.set 0 _).set 1 _).set 2 _) Try.results68 rfl rfl Try.underlying23 (by kernel_rfl) ⟨⟨_, _, ST.out, HR.out, rfl⟩, ?_⟩
          exact ((B.out.setCell (p := ⟨w.heap.size + 1, 0, none⟩) (Nat.le_succ _) _).setCell (p := ⟨w.heap.size + 1, 1, none⟩) (Nat.le_succ _) _).setCell (p := ⟨w.heap.size + 1, 2, none⟩) (Nat.le_succ _) _
        · have hzx : z < x := by omega
          have d1 : decide (0 ≤ y) = true := decide_eq_true (by omega)
          have d2 : decide (2 * y ≤ x) = true := decide_eq_true (by omega)
          have d3 : decide (x ≤ z) = false := decide_eq_false (by omega)
          have d4 : decide (z < x) = true := decide_eq_true (by omega)
          have ST1 : Hid (La.St ⟨a, b, c⟩ ⟨z, y, x⟩ ⟨m.b, m.a, m.d, m.c⟩) := ST.out.swp
          have N0 : Hid (Has ((wo.setCell ⟨w.heap.size, 0, none⟩ (.int .i64 (z))).setCell ⟨w.heap.size, 2, none⟩ (.int .i64 (x))) w.heap.size 23 [.int .i64 (z), .int .i64 (y), .int .i64 (x)]) := ((G0.out.set 0 (.int .i64 (z))).set 2 (.int .i64 (x)))
          have N1 : Hid (Has ((wo.setCell ⟨w.heap.size, 0, none⟩ (.int .i64 (z))).setCell ⟨w.heap.size, 2, none⟩ (.int .i64 (x))) (w.heap.size + 1) 23 [.int .i64 0, .int .i64 0, .int .i64 0]) := ((G1.out.far (by omega) 0 _).far (by omega) 2 _)
          have NB := Lib.hid ((B.out.setCell (p := ⟨w.heap.size, 0, none⟩) (Nat.le_refl _) (.int .i64 (z))).setCell (p := ⟨w.heap.size, 2, none⟩) (Nat.le_refl _) (.int .i64 (x)))
          have NM : Hid (redAt ((wo.setCell ⟨w.heap.size, 0, none⟩ (.int .i64 (z))).setCell ⟨w.heap.size, 2, none⟩ (.int .i64 (x))) w.heap.size < redAt wo w.heap.size) := by show _ < _; rw [HM.out, redAt_eq N0.out]; omega
          clear hx1 hz1 hx2 hz2 hy HM ST
          go_wp2
          exact ⟨⟨_, _, _, _, N0, N1, NB, ST1⟩, NM.out⟩
      · by_cases hxz : x ≤ z
        · have hzx : ¬ z < x := by omega
          have d1 : decide (0 ≤ y) = true := decide_eq_true (by omega)
          have d2 : decide (2 * y ≤ x) = false := decide_eq_false (by omega)
          have d4 : decide (z < x) = false := decide_eq_false (by omega)
          have d5 : decide (y < 0) = false := decide_eq_false (by omega)
          have ST1 : Hid (La.St ⟨a, b, c⟩ ⟨x, y - x, z - 2 * y + x⟩ (La.mul m (La.shear 1))) := ST.out.sub (show x < 2 * y by omega)
          have N0 : Hid (Has ((wo.setCell ⟨w.heap.size, 2, none⟩ (.int .i64 (z - 2 * y + x))).setCell ⟨w.heap.size, 1, none⟩ (.int .i64 (y - x))) w.heap.size 23 [.int .i64 (x), .int .i64 (y - x), .int .i64 (z - 2 * y + x)]) := ((G0.out.set 2 (.int .i64 (z - 2 * y + x))).set 1 (.int .i64 (y - x)))
          have N1 : Hid (Has ((wo.setCell ⟨w.heap.size, 2, none⟩ (.int .i64 (z - 2 * y + x))).setCell ⟨w.heap.size, 1, none⟩ (.int .i64 (y - x))) (w.heap.size + 1) 23 [.int .i64 0, .int .i64 0, .int .i64 0]) := ((G1.out.far (by omega) 2 _).far (by omega) 1 _)
          have NB := Lib.hid ((B.out.setCell (p := ⟨w.heap.size, 2, none⟩) (Nat.le_refl _) (.int .i64 (z - 2 * y + x))).setCell (p := ⟨w.heap.size, 1, none⟩) (Nat.le_refl _) (.int .i64 (y - x)))
          have NM : Hid (redAt ((wo.setCell ⟨w.heap.size, 2, none⟩ (.int .i64 (z - 2 * y + x))).setCell ⟨w.heap.size, 1, none⟩ (.int .i64 (y - x))) w.heap.size < redAt wo w.heap.size) := by show _ < _; rw [HM.out, redAt_eq N0.out]; split <;> split <;> omega
          clear hx1 hz1 hx2 hz2 hy HM ST
          go_wp2
          exact ⟨⟨_, _, _, _, N0, N1, NB, ST1⟩, NM.out⟩
        · have hzx : z < x := by omega
          have d1 : decide (0 ≤ y) = true := decide_eq_true (by omega)
          have d2 : decide (2 * y ≤ x) = false := decide_eq_false (by omega)
          have d4 : decide (z < x) = true := decide_eq_true (by omega)
          have ST1 : Hid (La.St ⟨a, b, c⟩ ⟨z, y, x⟩ ⟨m.b, m.a, m.d, m.c⟩) := ST.out.swp
          have N0 : Hid (Has ((wo.setCell ⟨w.heap.size, 0, none⟩ (.int .i64 (z))).setCell ⟨w.heap.size, 2, none⟩ (.int .i64 (x))) w.heap.size 23 [.int .i64 (z), .int .i64 (y), .int .i64 (x)]) := ((G0.out.set 0 (.int .i64 (z))).set 2 (.int .i64 (x)))
          have N1 : Hid (Has ((wo.setCell ⟨w.heap.size, 0, none⟩ (.int .i64 (z))).setCell ⟨w.heap.size, 2, none⟩ (.int .i64 (x))) (w.heap.size + 1) 23 [.int .i64 0, .int .i64 0, .int .i64 0]) := ((G1.out.far (by omega) 0 _).far (by omega) 2 _)
          have NB := Lib.hid ((B.out.setCell (p := ⟨w.heap.size, 0, none⟩) (Nat.le_refl _) (.int .i64 (z))).setCell (p := ⟨w.heap.size, 2, none⟩) (Nat.le_refl _) (.int .i64 (x)))
          have NM : Hid (redAt ((wo.setCell ⟨w.heap.size, 0, none⟩ (.int .i64 (z))).setCell ⟨w.heap.size, 2, none⟩ (.int .i64 (x))) w.heap.size < redAt wo w.heap.size) := by show _ < _; rw [HM.out, redAt_eq N0.out]; omega
          clear hx1 hz1 hx2 hz2 hy HM ST
          go_wp2
          exact ⟨⟨_, _, _, _, N0, N1, NB, ST1⟩, NM.out⟩
    · by_cases hxz : x ≤ z
      · have hzx : ¬ z < x := by omega
        have d1 : decide (0 ≤ y) = false := decide_eq_false (by omega)
        have d4 : decide (z < x) = false := decide_eq_false (by omega)
        have d5 : decide (y < 0) = true := decide_eq_true (by omega)
        have ST1 : Hid (La.St ⟨a, b, c⟩ ⟨x, -y, z⟩ ⟨m.a, -m.b, m.c, -m.d⟩) := ST.out.flip
        have N0 : Hid (Has (wo.setCell ⟨w.heap.size, 1, none⟩ (.int .i64 (-y))) w.heap.size 23 [.int .i64 (x), .int .i64 (-y), .int .i64 (z)]) := (G0.out.set 1 (.int .i64 (-y)))
        have N1 : Hid (Has (wo.setCell ⟨w.heap.size, 1, none⟩ (.int .i64 (-y))) (w.heap.size + 1) 23 [.int .i64 0, .int .i64 0, .int .i64 0]) := (G1.out.far (by omega) 1 _)
        have NB := Lib.hid (B.out.setCell (p := ⟨w.heap.size, 1, none⟩) (Nat.le_refl _) (.int .i64 (-y)))
        have NM : Hid (redAt (wo.setCell ⟨w.heap.size, 1, none⟩ (.int .i64 (-y))) w.heap.size < redAt wo w.heap.size) := by show _ < _; rw [HM.out, redAt_eq N0.out]; rw [if_neg (by omega), if_pos (by omega)]; omega
        clear hx1 hz1 hx2 hz2 hy HM ST
        go_wp2
        exact ⟨⟨_, _, _, _, N0, N1, NB, ST1⟩, NM.out⟩
      · have hzx : z < x := by omega
        have d1 : decide (0 ≤ y) = false := decide_eq_false (by omega)
        have d4 : decide (z < x) = true := decide_eq_true (by omega)
        have ST1 : Hid (La.St ⟨a, b, c⟩ ⟨z, y, x⟩ ⟨m.b, m.a, m.d, m.c⟩) := ST.out.swp
        have N0 : Hid (Has ((wo.setCell ⟨w.heap.size, 0, none⟩ (.int .i64 (z))).setCell ⟨w.heap.size, 2, none⟩ (.int .i64 (x))) w.heap.size 23 [.int .i64 (z), .int .i64 (y), .int .i64 (x)]) := ((G0.out.set 0 (.int .i64 (z))).set 2 (.int .i64 (x)))
        have N1 : Hid (Has ((wo.setCell ⟨w.heap.size, 0, none⟩ (.int .i64 (z))).setCell ⟨w.heap.size, 2, none⟩ (.int .i64 (x))) (w.heap.size + 1) 23 [.int .i64 0, .int .i64 0, .int .i64 0]) := ((G1.out.far (by omega) 0 _).far (by omega) 2 _)
        have NB := Lib.hid ((B.out.setCell (p := ⟨w.heap.size, 0, none⟩) (Nat.le_refl _) (.int .i64 (z))).setCell (p := ⟨w.heap.size, 2, none⟩) (Nat.le_refl _) (.int .i64 (x)))
        have NM : Hid (redAt ((wo.setCell ⟨w.heap.size, 0, none⟩ (.int .i64 (z))).setCell ⟨w.heap.size, 2, none⟩ (.int .i64 (x))) w.heap.size < redAt wo w.heap.size) := by show _ < _; rw [HM.out, redAt_eq N0.out]; omega
        clear hx1 hz1 hx2 hz2 hy HM ST
        go_wp2
        exact ⟨⟨_, _, _, _, N0, N1, NB, ST1⟩, NM.out⟩
end Go.Proofs.Ytmghpaibdgkbfaa
/-
  Contract of chapter 6: the document's Reduce of what is no lattice.
-/
namespace Go.Proofs.Ytmghpaibdgkbfaa
open Go.RowKit
set_option maxRecDepth 100000 in
set_option maxHeartbeats 1000000 in
theorem rreduceNC (a b c : Int) (w : World) (h : okL a b c = false) : Calls Try.prog 25 #[vL a b c] w fun e w' => e = .returned (.tuple #[vL 0 0 0, vM 0 0 0 0, .int .i64 2]) ∧ Below w.heap.size w w' := by
  have CC := Lib.hid (fun W => rcheckC a b c W)
  rw [show errL a b c = 2 from if_neg (by rw [h]; decide)] at CC
  have G0 : Hid (Has (boxW w [cL a b c, ([.int .i64 0, .int .i64 0, .int .i64 0], 23), ([.int .i64 0, .int .i64 0, .int .i64 0, .int .i64 0], 40)]) (w.heap.size) 23 [.int .i64 a, .int .i64 b, .int .i64 c]) := box_has [cL a b c, ([.int .i64 0, .int .i64 0, .int .i64 0], 23), ([.int .i64 0, .int .i64 0, .int .i64 0, .int .i64 0], 40)] (w := w) (Below.refl _ _) (i := 0) rfl
  have G1 : Hid (Has (boxW w [cL a b c, ([.int .i64 0, .int .i64 0, .int .i64 0], 23), ([.int .i64 0, .int .i64 0, .int .i64 0, .int .i64 0], 40)]) (w.heap.size + 1) 23 [.int .i64 0, .int .i64 0, .int .i64 0]) := box_has [cL a b c, ([.int .i64 0, .int .i64 0, .int .i64 0], 23), ([.int .i64 0, .int .i64 0, .int .i64 0, .int .i64 0], 40)] (w := w) (Below.refl _ _) (i := 1) rfl
  have G2 : Hid (Has (boxW w [cL a b c, ([.int .i64 0, .int .i64 0, .int .i64 0], 23), ([.int .i64 0, .int .i64 0, .int .i64 0, .int .i64 0], 40)]) (w.heap.size + 1 + 1) 40 [.int .i64 0, .int .i64 0, .int .i64 0, .int .i64 0]) := box_has [cL a b c, ([.int .i64 0, .int .i64 0, .int .i64 0], 23), ([.int .i64 0, .int .i64 0, .int .i64 0, .int .i64 0], 40)] (w := w) (Below.refl _ _) (i := 2) rfl
  have B0 := Lib.hid (boxW_below [cL a b c, ([.int .i64 0, .int .i64 0, .int .i64 0], 23), ([.int .i64 0, .int .i64 0, .int .i64 0, .int .i64 0], 40)] w)
  obtain ⟨W1, hW1⟩ : ∃ W1, W1 = boxW w [cL a b c, ([.int .i64 0, .int .i64 0, .int .i64 0], 23), ([.int .i64 0, .int .i64 0, .int .i64 0, .int .i64 0], 40)] := ⟨_, rfl⟩
  rw [← hW1] at G0 G1 G2 B0
  go_enter Try.func25, Try.ntmps25
  go_upto_region 1 with (fail)
  rw [show ((w.alloc (.cells #[.int .i64 a, .int .i64 b, .int .i64 c] 23)).alloc (.cells #[.int .i64 0, .int .i64 0, .int .i64 0] 23)).alloc (.cells #[.int .i64 0, .int .i64 0, .int .i64 0, .int .i64 0] 40) = W1 from hW1.symm]
  clear hW1
  have c0 : W1.cell? ⟨w.heap.size, 0, none⟩ = some (.int .i64 a) := G0.out.cell 0
  have c1 : W1.cell? ⟨w.heap.size, 1, none⟩ = some (.int .i64 b) := G0.out.cell 1
  have c2 : W1.cell? ⟨w.heap.size, 2, none⟩ = some (.int .i64 c) := G0.out.cell 2
  go_wp2_with fail
  refine (CC.out _).mono ?_
  rintro e w1 ⟨rfl, hb1⟩
  replace G1 := Lib.hid (G1.out.below hb1 G1.out.lt)
  replace G2 := Lib.hid (G2.out.below hb1 G2.out.lt)
  replace B0 := Lib.hid (bvia B0.out hb1)
  clear hb1 c0 c1 c2
  have c0 : w1.cell? ⟨w.heap.size + 1, 0, none⟩ = some (.int .i64 0) := G1.out.cell 0
  have fc0 : w1.frozen? ⟨w.heap.size + 1, 0, none⟩ = false := G1.out.free 0
  have c1 : w1.cell? ⟨w.heap.size + 1, 1, none⟩ = some (.int .i64 0) := G1.out.cell 1
  have fc1 : w1.frozen? ⟨w.heap.size + 1, 1, none⟩ = false := G1.out.free 1
  have c2 : w1.cell? ⟨w.heap.size + 1, 2, none⟩ = some (.int .i64 0) := G1.out.cell 2
  have fc2 : w1.frozen? ⟨w.heap.size + 1, 2, none⟩ = false := G1.out.free 2
  have d0 : w1.cell? ⟨w.heap.size + 1 + 1, 0, none⟩ = some (.int .i64 0) := G2.out.cell 0
  have fd0 : w1.frozen? ⟨w.heap.size + 1 + 1, 0, none⟩ = false := G2.out.free 0
  have d1 : w1.cell? ⟨w.heap.size + 1 + 1, 1, none⟩ = some (.int .i64 0) := G2.out.cell 1
  have fd1 : w1.frozen? ⟨w.heap.size + 1 + 1, 1, none⟩ = false := G2.out.free 1
  have d2 : w1.cell? ⟨w.heap.size + 1 + 1, 2, none⟩ = some (.int .i64 0) := G2.out.cell 2
  have fd2 : w1.frozen? ⟨w.heap.size + 1 + 1, 2, none⟩ = false := G2.out.free 2
  have d3 : w1.cell? ⟨w.heap.size + 1 + 1, 3, none⟩ = some (.int .i64 0) := G2.out.cell 3
  have fd3 : w1.frozen? ⟨w.heap.size + 1 + 1, 3, none⟩ = false := G2.out.free 3
  go_wp2
  refine post_cell2_tmp (cs := [.int .i64 0, .int .i64 0, .int .i64 0]) (ds := [.int .i64 0, .int .i64 0, .int .i64 0, .int .i64 0]) (((((((G1.out.set 0 (.int .i64 0)).set 1 (.int .i64 0)).set 2 (.int .i64 0)).far (by omega) 0 _).far (by omega) 1 _).far (by omega) 2 _).far (by omega) 3 _) (((((((G2.out.far (by omega) 0 _).far (by omega) 1 _).far (by omega) 2 _).set 0 (.int .i64 0)).set 1 (.int .i64 0)).set 2 (.int .i64 0)).set 3 (.int .i64 0)) Try.results25 rfl rfl rfl rfl Try.underlying23 (by kernel_rfl) Try.underlying40 (by kernel_rfl) ⟨rfl, (((((((B0.out.setCell (p := ⟨w.heap.size + 1, 0, none⟩) (show w.heap.size ≤ w.heap.size + 1 by omega) _).setCell (p := ⟨w.heap.size + 1, 1, none⟩) (show w.heap.size ≤ w.heap.size + 1 by omega) _).setCell (p := ⟨w.heap.size + 1, 2, none⟩) (show w.heap.size ≤ w.heap.size + 1 by omega) _).setCell (p := ⟨w.heap.size + 1 + 1, 0, none⟩) (show w.heap.size ≤ w.heap.size + 1 + 1 by omega) _).setCell (p := ⟨w.heap.size + 1 + 1, 1, none⟩) (show w.heap.size ≤ w.heap.size + 1 + 1 by omega) _).setCell (p := ⟨w.heap.size + 1 + 1, 2, none⟩) (show w.heap.size ≤ w.heap.size + 1 + 1 by omega) _).setCell (p := ⟨w.heap.size + 1 + 1, 3, none⟩) (show w.heap.size ≤ w.heap.size + 1 + 1 by omega) _)⟩
end Go.Proofs.Ytmghpaibdgkbfaa
/-
  Arguments of the statements of chapter 6: lattices, points, matrices, moves, four points.
-/
namespace Go.Proofs.Ytmghpaibdgkbfaa
open Go.RowKit Go.ChangeShapes Go.WideShapes Go.ChangeAt Go.Joins Go.Deep
theorem cellsP : Try.prog.cellsOf 25 = 2 := by kernel_rfl
theorem cellsL : Try.prog.cellsOf 23 = 3 := by kernel_rfl
theorem cellsM : Try.prog.cellsOf 40 = 4 := by kernel_rfl
theorem cellsV : Try.prog.cellsOf 58 = 6 := by kernel_rfl
theorem cells64 : Try.prog.cellsOf 2 = 1 := by kernel_rfl
section
variable {H : Type} {enc : TypeId × Value → H} {w : World} {held : Bool}
set_option maxRecDepth 100000 in
theorem cells_pt {n : Nat} {cs : List Value} {x : DataW H × List MemPlace} {sp : Nat → Bool} {base : Nat} (h : DataW.trod enc Try.prog w base sp held n 25 cs = some x) : ∃ a b : Int, cs = [.int .i64 a, .int .i64 b] := by
  obtain ⟨y0, y1, m, _, hl, h0, h1⟩ := trod_struct2 Try.underlying25 h
  rw [cellsP] at hl
  match cs, hl with
  | [v0, v1], _ =>
    simp [cells64] at h0 h1
    obtain ⟨a, e0, _, _⟩ := DataW.trod_int Try.underlying2 h0
    obtain ⟨b, e1, _, _⟩ := DataW.trod_int Try.underlying2 h1
    simp at e0 e1
    subst e0 e1
    exact ⟨a, b, rfl⟩
set_option maxRecDepth 100000 in
theorem cells_mx {n : Nat} {cs : List Value} {x : DataW H × List MemPlace} {sp : Nat → Bool} {base : Nat} (h : DataW.trod enc Try.prog w base sp held n 40 cs = some x) : ∃ a b c d : Int, cs = [.int .i64 a, .int .i64 b, .int .i64 c, .int .i64 d] := by
  obtain ⟨y0, y1, y2, y3, m, _, hl, h0, h1, h2, h3⟩ := trod_struct4 Try.underlying40 h
  rw [cellsM] at hl
  match cs, hl with
  | [v0, v1, v2, v3], _ =>
    simp [cells64] at h0 h1 h2 h3
    obtain ⟨a, e0, _, _⟩ := DataW.trod_int Try.underlying2 h0
    obtain ⟨b, e1, _, _⟩ := DataW.trod_int Try.underlying2 h1
    obtain ⟨c, e2, _, _⟩ := DataW.trod_int Try.underlying2 h2
    obtain ⟨d, e3, _, _⟩ := DataW.trod_int Try.underlying2 h3
    simp at e0 e1 e2 e3
    subst e0 e1 e2 e3
    exact ⟨a, b, c, d, rfl⟩
set_option maxRecDepth 100000 in
theorem cells_mv {n : Nat} {cs : List Value} {x : DataW H × List MemPlace} {sp : Nat → Bool} {base : Nat} (h : DataW.trod enc Try.prog w base sp held n 58 cs = some x) : ∃ a b c d u v : Int, cs = [.int .i64 a, .int .i64 b, .int .i64 c, .int .i64 d, .int .i64 u, .int .i64 v] := by
  obtain ⟨y0, y1, m, _, hl, h0, h1⟩ := trod_struct2 Try.underlying58 h
  rw [cellsV] at hl
  match cs, hl with
  | [v0, v1, v2, v3, v4, v5], _ =>
    simp [cellsM, cellsP] at h0 h1
    obtain ⟨a, b, c, d, e⟩ := cells_mx h0
    obtain ⟨u, v, e'⟩ := cells_pt h1
    simp at e e'
    obtain ⟨rfl, rfl, rfl, rfl⟩ := e
    obtain ⟨rfl, rfl⟩ := e'
    exact ⟨a, b, c, d, u, v, rfl⟩
theorem agg_of {cs : Array Value} {l : List Value} (h : (Value.agg cs).cells.toList = l) : Value.agg cs = .agg l.toArray := by
  subst h
  show Value.agg cs = .agg cs.toList.toArray
  rw [Array.toArray_toList]
set_option maxRecDepth 100000 in
theorem openPt {r : Reach} {b0 : Nat} {v : Value} {d : DataW H} {ps : List MemPlace} {sp : Nat → Bool} (hv : Value.okWide Try.prog w r b0 25 v) (h : DataW.Trod enc Try.prog w 0 sp held 25 v d ps) : ∃ x y : Int, v = vP x y := by
  obtain ⟨cs, rfl, _⟩ := okWide_struct Try.underlying25 hv
  obtain ⟨fuel, hf⟩ := h
  obtain ⟨x, y, e⟩ := cells_pt hf
  exact ⟨x, y, agg_of e⟩
set_option maxRecDepth 100000 in
theorem openMat {r : Reach} {b0 : Nat} {v : Value} {d : DataW H} {ps : List MemPlace} {sp : Nat → Bool} (hv : Value.okWide Try.prog w r b0 40 v) (h : DataW.Trod enc Try.prog w 0 sp held 40 v d ps) : ∃ a b c e : Int, v = vM a b c e := by
  obtain ⟨cs, rfl, _⟩ := okWide_struct Try.underlying40 hv
  obtain ⟨fuel, hf⟩ := h
  obtain ⟨a, b, c, d, e⟩ := cells_mx hf
  exact ⟨a, b, c, d, agg_of e⟩
set_option maxRecDepth 100000 in
theorem openMove {r : Reach} {b0 : Nat} {v : Value} {d : DataW H} {ps : List MemPlace} {sp : Nat → Bool} (hv : Value.okWide Try.prog w r b0 58 v) (h : DataW.Trod enc Try.prog w 0 sp held 58 v d ps) : ∃ a b c e x y : Int, v = .agg #[.int .i64 a, .int .i64 b, .int .i64 c, .int .i64 e, .int .i64 x, .int .i64 y] := by
  obtain ⟨cs, rfl, _⟩ := okWide_struct Try.underlying58 hv
  obtain ⟨fuel, hf⟩ := h
  obtain ⟨a, b, c, d, x, y, e⟩ := cells_mv hf
  exact ⟨a, b, c, d, x, y, agg_of e⟩
set_option maxRecDepth 100000 in
theorem openLat {r : Reach} {b0 : Nat} {v : Value} {d : DataW H} {ps : List MemPlace} {sp : Nat → Bool} (hv : Value.okWide Try.prog w r b0 23 v) (h : DataW.Trod enc Try.prog w 0 sp held 23 v d ps) : ∃ a b c : Int, v = vL a b c := by
  obtain ⟨c0, c1, c2, y0, y1, y2, m, rfl, rfl, rfl, h0, h1, h2⟩ := open_agg3 Try.underlying23 (by kernel_rfl) cellsL hv h
  obtain ⟨k, e0, _, _⟩ := DataW.trod_int Try.underlying2 h0
  obtain ⟨a, e1, _, _⟩ := DataW.trod_int Try.underlying2 h1
  obtain ⟨s, e2, _, _⟩ := DataW.trod_int Try.underlying2 h2
  simp at e0 e1 e2
  subst e0 e1 e2
  exact ⟨k, a, s, rfl⟩
abbrev vF (a b c d e f g h : Int) : Value := .agg #[.int .i64 a, .int .i64 b, .int .i64 c, .int .i64 d, .int .i64 e, .int .i64 f, .int .i64 g, .int .i64 h]
set_option maxRecDepth 100000 in
theorem openFour {r : Reach} {b0 : Nat} {v : Value} {d : DataW H} {ps : List MemPlace} {sp : Nat → Bool} (hv : Value.okWide Try.prog w r b0 27 v) (h : DataW.Trod enc Try.prog w 0 sp held 27 v d ps) : ∃ a b c e f g i j : Int, v = vF a b c e f g i j := by
  obtain ⟨cs, rfl, _⟩ := okWide_struct Try.underlying27 hv
  obtain ⟨fuel, hf⟩ := h
  obtain ⟨y0, y1, y2, y3, m, _, hl, h0, h1, h2, h3⟩ := trod_struct4 Try.underlying27 hf
  rw [show Try.prog.cellsOf 27 = 8 by kernel_rfl] at hl
  obtain ⟨l⟩ := cs
  change l.length = 8 at hl
  match l, hl with
  | [v0, v1, v2, v3, v4, v5, v6, v7], _ =>
    simp [cellsP, Value.cells] at h0 h1 h2 h3
    obtain ⟨a, b, e0⟩ := cells_pt h0
    obtain ⟨c, d, e1⟩ := cells_pt h1
    obtain ⟨e, f, e2⟩ := cells_pt h2
    obtain ⟨g, i, e3⟩ := cells_pt h3
    simp at e0 e1 e2 e3
    obtain ⟨rfl, rfl⟩ := e0
    obtain ⟨rfl, rfl⟩ := e1
    obtain ⟨rfl, rfl⟩ := e2
    obtain ⟨rfl, rfl⟩ := e3
    exact ⟨a, b, c, d, e, f, g, i, rfl⟩
end
end Go.Proofs.Ytmghpaibdgkbfaa
/-
  The law GridsReduces (from the contract of the document's Reduce, RRedOK).
-/
namespace Go.Proofs.Ytmghpaibdgkbfaa
open Go.RowKit
/-- the document's Reduce answers its plain law -/
structure RRedOK : Prop where
  yes : ∀ (a b c : Int) (w : World), okL a b c = true → Calls Try.prog 25 #[vL a b c] w fun e w' => (∃ (l : La.Lat) (m : La.Mat), La.St ⟨a, b, c⟩ l m ∧ La.Red l ∧ e = .returned (.tuple #[vL l.a l.b l.c, vM (redM l m).a (redM l m).b (redM l m).c (redM l m).d, .int .i64 0])) ∧ Below w.heap.size w w'
  no : ∀ (a b c : Int) (w : World), okL a b c = false → Calls Try.prog 25 #[vL a b c] w fun e w' => e = .returned (.tuple #[vL 0 0 0, vM 0 0 0 0, .int .i64 2]) ∧ Below w.heap.size w w'
theorem red_both {L l l' : La.Lat} {m m' : La.Mat} (v : La.Val L) (ha : L.a ≤ 10000) (hc : L.c ≤ 10000) (h : La.St L l m) (r : La.Red l) (h' : La.St L l' m') (r' : La.Red l') : l = l' ∧ redM l m = redM l' m' := by
  have e : l = l' := red_same h r (m := La.one) (Or.inl (by decide)) (La.lead_one L).symm h' r'
  subst e
  refine ⟨rfl, ?_⟩
  have h1 := red_ldg v ha hc h r
  rw [red_ldg v ha hc h' r'] at h1
  exact (Option.some.inj h1).symm
set_option maxRecDepth 100000 in
set_option maxHeartbeats 8000000 in
theorem reducesP (RO : RRedOK) (a b c : Int) (w : World) : Calls Try.prog 5 #[vL a b c] w fun e w' => e = .returned (.bool true) ∧ Below w.heap.size w w' := by
  cases h : okL a b c with
  | false =>
    have C1 := Lib.hid (fun W => reduceNC a b c W h)
    have C2 := Lib.hid (fun W => RO.no a b c W h)
    clear h RO
    have G0 : Hid (Has (boxW w [([.int .i64 a, .int .i64 b, .int .i64 c], 23)]) (w.heap.size) 23 [.int .i64 a, .int .i64 b, .int .i64 c]) := box_has [([.int .i64 a, .int .i64 b, .int .i64 c], 23)] (w := w) (Below.refl _ _) (i := 0) rfl
    have B := Lib.hid (boxW_below [([.int .i64 a, .int .i64 b, .int .i64 c], 23)] w)
    obtain ⟨W1, hW1⟩ : ∃ W1, W1 = boxW w [([.int .i64 a, .int .i64 b, .int .i64 c], 23)] := ⟨_, rfl⟩
    rw [← hW1] at G0 B
    go_enter Try.func5, Try.ntmps5
    go_upto_region 1 with (fail)
    rw [show w.alloc (.cells #[.int .i64 a, .int .i64 b, .int .i64 c] 23) = W1 from hW1.symm]
    clear hW1
    have cG00 : W1.cell? ⟨w.heap.size, 0, none⟩ = some (.int .i64 a) := G0.out.cell 0
    have cG01 : W1.cell? ⟨w.heap.size, 1, none⟩ = some (.int .i64 b) := G0.out.cell 1
    have cG02 : W1.cell? ⟨w.heap.size, 2, none⟩ = some (.int .i64 c) := G0.out.cell 2
    go_wp2_with fail
    refine (C1.out _).mono ?_
    rintro e w1 ⟨rfl, hb1⟩
    clear cG00 cG01 cG02
    replace G0 := Lib.hid (G0.out.below hb1 G0.out.lt)
    replace B := Lib.hid (bvia B.out hb1)
    clear hb1
    have lG0GA : w.heap.size < w1.heap.size := G0.out.lt
    go_upto_region 2 with (fail)
    have D1 := Lib.hid ((Below.refl w1.heap.size w1).alloc (Nat.le_refl _) (.cells #[.int .i64 0, .int .i64 0, .int .i64 0] 23))
    replace D1 := Lib.hid (D1.out.alloc (by simp) (.cells #[.int .i64 0, .int .i64 0, .int .i64 0, .int .i64 0] 40))
    have GA : Hid (Has ((w1.alloc (.cells #[.int .i64 0, .int .i64 0, .int .i64 0] 23)).alloc (.cells #[.int .i64 0, .int .i64 0, .int .i64 0, .int .i64 0] 40)) w1.heap.size 23 [.int .i64 0, .int .i64 0, .int .i64 0]) := Has.alloc (Has.new rfl) _
    have GB : Hid (Has ((w1.alloc (.cells #[.int .i64 0, .int .i64 0, .int .i64 0] 23)).alloc (.cells #[.int .i64 0, .int .i64 0, .int .i64 0, .int .i64 0] 40)) (w1.heap.size + 1) 40 [.int .i64 0, .int .i64 0, .int .i64 0, .int .i64 0]) := Has.new2 rfl
    replace G0 := Lib.hid (G0.out.below D1.out G0.out.lt)
    replace B := Lib.hid (bvia B.out D1.out)
    clear D1
    generalize (w1.alloc (.cells #[.int .i64 0, .int .i64 0, .int .i64 0] 23)).alloc (.cells #[.int .i64 0, .int .i64 0, .int .i64 0, .int .i64 0] 40) = V2 at *
    generalize w1.heap.size = KGA at *
    have cG00 : V2.cell? ⟨w.heap.size, 0, none⟩ = some (.int .i64 a) := G0.out.cell 0
    have cG01 : V2.cell? ⟨w.heap.size, 1, none⟩ = some (.int .i64 b) := G0.out.cell 1
    have cG02 : V2.cell? ⟨w.heap.size, 2, none⟩ = some (.int .i64 c) := G0.out.cell 2
    go_wp2_with fail
    refine (C2.out _).mono ?_
    rintro e w3 ⟨rfl, hb3⟩
    clear cG00 cG01 cG02
    replace G0 := Lib.hid (G0.out.below hb3 G0.out.lt)
    replace GA := Lib.hid (GA.out.below hb3 GA.out.lt)
    replace GB := Lib.hid (GB.out.below hb3 GB.out.lt)
    replace B := Lib.hid (bvia B.out hb3)
    clear hb3
    have lG0GC : w.heap.size < w3.heap.size := G0.out.lt
    have lGAGC : KGA < w3.heap.size := GA.out.lt
    have lGBGC : KGA + 1 < w3.heap.size := GB.out.lt
    go_upto_region 3 with (fail)
    have D1 := Lib.hid ((Below.refl w3.heap.size w3).alloc (Nat.le_refl _) (.cells #[.int .i64 0, .int .i64 0, .int .i64 0] 23))
    replace D1 := Lib.hid (D1.out.alloc (by simp) (.cells #[.int .i64 0, .int .i64 0, .int .i64 0, .int .i64 0] 40))
    have GC : Hid (Has ((w3.alloc (.cells #[.int .i64 0, .int .i64 0, .int .i64 0] 23)).alloc (.cells #[.int .i64 0, .int .i64 0, .int .i64 0, .int .i64 0] 40)) w3.heap.size 23 [.int .i64 0, .int .i64 0, .int .i64 0]) := Has.alloc (Has.new rfl) _
    have GD : Hid (Has ((w3.alloc (.cells #[.int .i64 0, .int .i64 0, .int .i64 0] 23)).alloc (.cells #[.int .i64 0, .int .i64 0, .int .i64 0, .int .i64 0] 40)) (w3.heap.size + 1) 40 [.int .i64 0, .int .i64 0, .int .i64 0, .int .i64 0]) := Has.new2 rfl
    replace G0 := Lib.hid (G0.out.below D1.out G0.out.lt)
    replace GA := Lib.hid (GA.out.below D1.out GA.out.lt)
    replace GB := Lib.hid (GB.out.below D1.out GB.out.lt)
    replace B := Lib.hid (bvia B.out D1.out)
    clear D1
    generalize (w3.alloc (.cells #[.int .i64 0, .int .i64 0, .int .i64 0] 23)).alloc (.cells #[.int .i64 0, .int .i64 0, .int .i64 0, .int .i64 0] 40) = V4 at *
    generalize w3.heap.size = KGC at *
    have hq1 : ∀ W, (Op.equalIn 10000 23 (vL 0 0 0) (vL 0 0 0)).run Try.prog W = .ok true W := fun W => by have := eqLat 0 0 0 0 0 0 W; rw [(sameL_iff ..).2 rfl] at this; exact this
    have hq2 : ∀ W, (Op.equalIn 10000 40 (vM 0 0 0 0) (vM 0 0 0 0)).run Try.prog W = .ok true W := fun W => by have := eqM 0 0 0 0 0 0 0 0 W; rw [(by unfold sameM; simp : sameM 0 0 0 0 0 0 0 0 = true)] at this; exact this
    have cGA0 : V4.cell? ⟨KGA, 0, none⟩ = some (.int .i64 0) := GA.out.cell 0
    have cGA1 : V4.cell? ⟨KGA, 1, none⟩ = some (.int .i64 0) := GA.out.cell 1
    have cGA2 : V4.cell? ⟨KGA, 2, none⟩ = some (.int .i64 0) := GA.out.cell 2
    have cGB0 : V4.cell? ⟨KGA + 1, 0, none⟩ = some (.int .i64 0) := GB.out.cell 0
    have cGB1 : V4.cell? ⟨KGA + 1, 1, none⟩ = some (.int .i64 0) := GB.out.cell 1
    have cGB2 : V4.cell? ⟨KGA + 1, 2, none⟩ = some (.int .i64 0) := GB.out.cell 2
    have cGB3 : V4.cell? ⟨KGA + 1, 3, none⟩ = some (.int .i64 0) := GB.out.cell 3
    have cGC0 : V4.cell? ⟨KGC, 0, none⟩ = some (.int .i64 0) := GC.out.cell 0
    have cGC1 : V4.cell? ⟨KGC, 1, none⟩ = some (.int .i64 0) := GC.out.cell 1
    have cGC2 : V4.cell? ⟨KGC, 2, none⟩ = some (.int .i64 0) := GC.out.cell 2
    have cGD0 : V4.cell? ⟨KGC + 1, 0, none⟩ = some (.int .i64 0) := GD.out.cell 0
    have cGD1 : V4.cell? ⟨KGC + 1, 1, none⟩ = some (.int .i64 0) := GD.out.cell 1
    have cGD2 : V4.cell? ⟨KGC + 1, 2, none⟩ = some (.int .i64 0) := GD.out.cell 2
    have cGD3 : V4.cell? ⟨KGC + 1, 3, none⟩ = some (.int .i64 0) := GD.out.cell 3
    go_wp2_with fail
    go_wp2_with fail
    refine (awakeC _).mono ?_
    rintro e w5 ⟨rfl, hb5⟩
    clear cGA0 cGA1 cGA2 cGB0 cGB1 cGB2 cGB3 cGC0 cGC1 cGC2 cGD0 cGD1 cGD2 cGD3
    replace G0 := Lib.hid (G0.out.below hb5 G0.out.lt)
    replace GA := Lib.hid (GA.out.below hb5 GA.out.lt)
    replace GB := Lib.hid (GB.out.below hb5 GB.out.lt)
    replace GC := Lib.hid (GC.out.below hb5 GC.out.lt)
    replace GD := Lib.hid (GD.out.below hb5 GD.out.lt)
    replace B := Lib.hid (bvia B.out hb5)
    clear hb5
    go_wp2
    go_ret
    exact ⟨rfl, B.out⟩
  | true =>
    have HV := Lib.hid (okL_val h)
    have C1 := Lib.hid (fun W => reduceTC a b c W h)
    have C2 := Lib.hid (fun W => RO.yes a b c W h)
    clear h RO
    have G0 : Hid (Has (boxW w [([.int .i64 a, .int .i64 b, .int .i64 c], 23)]) (w.heap.size) 23 [.int .i64 a, .int .i64 b, .int .i64 c]) := box_has [([.int .i64 a, .int .i64 b, .int .i64 c], 23)] (w := w) (Below.refl _ _) (i := 0) rfl
    have B := Lib.hid (boxW_below [([.int .i64 a, .int .i64 b, .int .i64 c], 23)] w)
    obtain ⟨W1, hW1⟩ : ∃ W1, W1 = boxW w [([.int .i64 a, .int .i64 b, .int .i64 c], 23)] := ⟨_, rfl⟩
    rw [← hW1] at G0 B
    go_enter Try.func5, Try.ntmps5
    go_upto_region 1 with (fail)
    rw [show w.alloc (.cells #[.int .i64 a, .int .i64 b, .int .i64 c] 23) = W1 from hW1.symm]
    clear hW1
    have cG00 : W1.cell? ⟨w.heap.size, 0, none⟩ = some (.int .i64 a) := G0.out.cell 0
    have cG01 : W1.cell? ⟨w.heap.size, 1, none⟩ = some (.int .i64 b) := G0.out.cell 1
    have cG02 : W1.cell? ⟨w.heap.size, 2, none⟩ = some (.int .i64 c) := G0.out.cell 2
    go_wp2_with fail
    refine (C1.out _).mono ?_
    rintro e w1 ⟨⟨l, m, ST, RD, rfl⟩, hb1⟩
    clear cG00 cG01 cG02
    replace G0 := Lib.hid (G0.out.below hb1 G0.out.lt)
    replace B := Lib.hid (bvia B.out hb1)
    clear hb1
    have HST := Lib.hid ST
    have HRD := Lib.hid RD
    clear ST RD
    obtain ⟨x, hx⟩ : ∃ x, x = redM l m := ⟨_, rfl⟩
    rw [← hx]
    have HX := Lib.hid hx
    clear hx
    have lG0GA : w.heap.size < w1.heap.size := G0.out.lt
    go_upto_region 2 with (fail)
    have D1 := Lib.hid ((Below.refl w1.heap.size w1).alloc (Nat.le_refl _) (.cells #[.int .i64 l.a, .int .i64 l.b, .int .i64 l.c] 23))
    replace D1 := Lib.hid (D1.out.alloc (by simp) (.cells #[.int .i64 x.a, .int .i64 x.b, .int .i64 x.c, .int .i64 x.d] 40))
    have GA : Hid (Has ((w1.alloc (.cells #[.int .i64 l.a, .int .i64 l.b, .int .i64 l.c] 23)).alloc (.cells #[.int .i64 x.a, .int .i64 x.b, .int .i64 x.c, .int .i64 x.d] 40)) w1.heap.size 23 [.int .i64 l.a, .int .i64 l.b, .int .i64 l.c]) := Has.alloc (Has.new rfl) _
    have GB : Hid (Has ((w1.alloc (.cells #[.int .i64 l.a, .int .i64 l.b, .int .i64 l.c] 23)).alloc (.cells #[.int .i64 x.a, .int .i64 x.b, .int .i64 x.c, .int .i64 x.d] 40)) (w1.heap.size + 1) 40 [.int .i64 x.a, .int .i64 x.b, .int .i64 x.c, .int .i64 x.d]) := Has.new2 rfl
    replace G0 := Lib.hid (G0.out.below D1.out G0.out.lt)
    replace B := Lib.hid (bvia B.out D1.out)
    clear D1
    generalize (w1.alloc (.cells #[.int .i64 l.a, .int .i64 l.b, .int .i64 l.c] 23)).alloc (.cells #[.int .i64 x.a, .int .i64 x.b, .int .i64 x.c, .int .i64 x.d] 40) = V2 at *
    generalize w1.heap.size = KGA at *
    have cG00 : V2.cell? ⟨w.heap.size, 0, none⟩ = some (.int .i64 a) := G0.out.cell 0
    have cG01 : V2.cell? ⟨w.heap.size, 1, none⟩ = some (.int .i64 b) := G0.out.cell 1
    have cG02 : V2.cell? ⟨w.heap.size, 2, none⟩ = some (.int .i64 c) := G0.out.cell 2
    go_wp2_with fail
    refine (C2.out _).mono ?_
    rintro e w3 ⟨⟨l', m', ST, RD, rfl⟩, hb3⟩
    clear cG00 cG01 cG02
    replace G0 := Lib.hid (G0.out.below hb3 G0.out.lt)
    replace GA := Lib.hid (GA.out.below hb3 GA.out.lt)
    replace GB := Lib.hid (GB.out.below hb3 GB.out.lt)
    replace B := Lib.hid (bvia B.out hb3)
    clear hb3
    obtain ⟨e1, e2⟩ := red_both HV.out.1 HV.out.2.1 HV.out.2.2 HST.out HRD.out ST RD
    subst e1
    rw [← e2, ← HX.out]
    clear e2 ST RD
    have lG0GC : w.heap.size < w3.heap.size := G0.out.lt
    have lGAGC : KGA < w3.heap.size := GA.out.lt
    have lGBGC : KGA + 1 < w3.heap.size := GB.out.lt
    go_upto_region 3 with (fail)
    have D1 := Lib.hid ((Below.refl w3.heap.size w3).alloc (Nat.le_refl _) (.cells #[.int .i64 l.a, .int .i64 l.b, .int .i64 l.c] 23))
    replace D1 := Lib.hid (D1.out.alloc (by simp) (.cells #[.int .i64 x.a, .int .i64 x.b, .int .i64 x.c, .int .i64 x.d] 40))
    have GC : Hid (Has ((w3.alloc (.cells #[.int .i64 l.a, .int .i64 l.b, .int .i64 l.c] 23)).alloc (.cells #[.int .i64 x.a, .int .i64 x.b, .int .i64 x.c, .int .i64 x.d] 40)) w3.heap.size 23 [.int .i64 l.a, .int .i64 l.b, .int .i64 l.c]) := Has.alloc (Has.new rfl) _
    have GD : Hid (Has ((w3.alloc (.cells #[.int .i64 l.a, .int .i64 l.b, .int .i64 l.c] 23)).alloc (.cells #[.int .i64 x.a, .int .i64 x.b, .int .i64 x.c, .int .i64 x.d] 40)) (w3.heap.size + 1) 40 [.int .i64 x.a, .int .i64 x.b, .int .i64 x.c, .int .i64 x.d]) := Has.new2 rfl
    replace G0 := Lib.hid (G0.out.below D1.out G0.out.lt)
    replace GA := Lib.hid (GA.out.below D1.out GA.out.lt)
    replace GB := Lib.hid (GB.out.below D1.out GB.out.lt)
    replace B := Lib.hid (bvia B.out D1.out)
    clear D1
    generalize (w3.alloc (.cells #[.int .i64 l.a, .int .i64 l.b, .int .i64 l.c] 23)).alloc (.cells #[.int .i64 x.a, .int .i64 x.b, .int .i64 x.c, .int .i64 x.d] 40) = V4 at *
    generalize w3.heap.size = KGC at *
    have hq1 : ∀ W, (Op.equalIn 10000 23 (vL l.a l.b l.c) (vL l.a l.b l.c)).run Try.prog W = .ok true W := fun W => by have := eqLat l.a l.b l.c l.a l.b l.c W; rw [(sameL_iff ..).2 rfl] at this; exact this
    have hq2 : ∀ W, (Op.equalIn 10000 40 (vM x.a x.b x.c x.d) (vM x.a x.b x.c x.d)).run Try.prog W = .ok true W := fun W => by have := eqM x.a x.b x.c x.d x.a x.b x.c x.d W; rw [(by unfold sameM; simp : sameM x.a x.b x.c x.d x.a x.b x.c x.d = true)] at this; exact this
    have cGA0 : V4.cell? ⟨KGA, 0, none⟩ = some (.int .i64 l.a) := GA.out.cell 0
    have cGA1 : V4.cell? ⟨KGA, 1, none⟩ = some (.int .i64 l.b) := GA.out.cell 1
    have cGA2 : V4.cell? ⟨KGA, 2, none⟩ = some (.int .i64 l.c) := GA.out.cell 2
    have cGB0 : V4.cell? ⟨KGA + 1, 0, none⟩ = some (.int .i64 x.a) := GB.out.cell 0
    have cGB1 : V4.cell? ⟨KGA + 1, 1, none⟩ = some (.int .i64 x.b) := GB.out.cell 1
    have cGB2 : V4.cell? ⟨KGA + 1, 2, none⟩ = some (.int .i64 x.c) := GB.out.cell 2
    have cGB3 : V4.cell? ⟨KGA + 1, 3, none⟩ = some (.int .i64 x.d) := GB.out.cell 3
    have cGC0 : V4.cell? ⟨KGC, 0, none⟩ = some (.int .i64 l.a) := GC.out.cell 0
    have cGC1 : V4.cell? ⟨KGC, 1, none⟩ = some (.int .i64 l.b) := GC.out.cell 1
    have cGC2 : V4.cell? ⟨KGC, 2, none⟩ = some (.int .i64 l.c) := GC.out.cell 2
    have cGD0 : V4.cell? ⟨KGC + 1, 0, none⟩ = some (.int .i64 x.a) := GD.out.cell 0
    have cGD1 : V4.cell? ⟨KGC + 1, 1, none⟩ = some (.int .i64 x.b) := GD.out.cell 1
    have cGD2 : V4.cell? ⟨KGC + 1, 2, none⟩ = some (.int .i64 x.c) := GD.out.cell 2
    have cGD3 : V4.cell? ⟨KGC + 1, 3, none⟩ = some (.int .i64 x.d) := GD.out.cell 3
    go_wp2_with fail
    go_wp2_with fail
    refine (awakeC _).mono ?_
    rintro e w5 ⟨rfl, hb5⟩
    clear cGA0 cGA1 cGA2 cGB0 cGB1 cGB2 cGB3 cGC0 cGC1 cGC2 cGD0 cGD1 cGD2 cGD3
    replace G0 := Lib.hid (G0.out.below hb5 G0.out.lt)
    replace GA := Lib.hid (GA.out.below hb5 GA.out.lt)
    replace GB := Lib.hid (GB.out.below hb5 GB.out.lt)
    replace GC := Lib.hid (GC.out.below hb5 GC.out.lt)
    replace GD := Lib.hid (GD.out.below hb5 GD.out.lt)
    replace B := Lib.hid (bvia B.out hb5)
    clear hb5
    go_wp2
    go_ret
    exact ⟨rfl, B.out⟩
end Go.Proofs.Ytmghpaibdgkbfaa
