/-
  Contracts of chapter 6: the reduction of a lattice.
-/
import Derived.Test.YtmghpaibdgkbfaaVB5
import Derived.Deep.CutRange
namespace Go.Proofs.Ytmghpaibdgkbfaa
open Go.RowKit
def natAt (w : World) (b o : Nat) : Nat := match w.cell? ⟨b, o, none⟩ with | some (.int _ q) => q.toNat | _ => 0
theorem natAt_eq {w : World} {b o : Nat} {q : Int} (h : w.cell? ⟨b, o, none⟩ = some (.int .i64 q)) : natAt w b o = q.toNat := by unfold natAt; rw [h]
theorem okL_val {a b c : Int} (h : okL a b c = true) : La.Val ⟨a, b, c⟩ ∧ a ≤ 10000 ∧ c ≤ 10000 := by
  obtain ⟨h1, h2, h3, h4, h5, h6, h7⟩ := (okL_iff a b c).1 h
  exact ⟨⟨h1, h2, by show 1 ≤ a * c - b * b; omega⟩, h3, h4⟩
set_option maxRecDepth 100000 in
set_option maxHeartbeats 4000000 in
theorem reduceC (a b c : Int) (w : World) (h : okL a b c = true) : Calls Try.prog 63 #[vL a b c] w fun e w' => (∃ (l : La.Lat) (m : La.Mat), e = .returned (.tuple #[vL l.a l.b l.c, vM m.a m.b m.c m.d]) ∧ La.St ⟨a, b, c⟩ l m ∧ La.Red l) ∧ Below w.heap.size w w' := by
  obtain ⟨hv, hA, hC⟩ := okL_val h
  have ST0 := Lib.hid (La.St.start hv hA hC)
  have HV := Lib.hid hv
  have HAC : Hid (a ≤ 10000 ∧ c ≤ 10000) := ⟨hA, hC⟩
  clear h hv hA hC
  have G0 : Hid (Has (boxW w [cL a b c, ([.int .i64 0, .int .i64 0, .int .i64 0], 23), ([.int .i64 0, .int .i64 0, .int .i64 0, .int .i64 0], 40), ([.int .i64 1, .int .i64 0, .int .i64 0, .int .i64 1], 40)]) (w.heap.size) 23 [.int .i64 a, .int .i64 b, .int .i64 c]) := box_has [cL a b c, ([.int .i64 0, .int .i64 0, .int .i64 0], 23), ([.int .i64 0, .int .i64 0, .int .i64 0, .int .i64 0], 40), ([.int .i64 1, .int .i64 0, .int .i64 0, .int .i64 1], 40)] (w := w) (Below.refl _ _) (i := 0) rfl
  have G1 : Hid (Has (boxW w [cL a b c, ([.int .i64 0, .int .i64 0, .int .i64 0], 23), ([.int .i64 0, .int .i64 0, .int .i64 0, .int .i64 0], 40), ([.int .i64 1, .int .i64 0, .int .i64 0, .int .i64 1], 40)]) (w.heap.size + 1) 23 [.int .i64 0, .int .i64 0, .int .i64 0]) := box_has [cL a b c, ([.int .i64 0, .int .i64 0, .int .i64 0], 23), ([.int .i64 0, .int .i64 0, .int .i64 0, .int .i64 0], 40), ([.int .i64 1, .int .i64 0, .int .i64 0, .int .i64 1], 40)] (w := w) (Below.refl _ _) (i := 1) rfl
  have G2 : Hid (Has (boxW w [cL a b c, ([.int .i64 0, .int .i64 0, .int .i64 0], 23), ([.int .i64 0, .int .i64 0, .int .i64 0, .int .i64 0], 40), ([.int .i64 1, .int .i64 0, .int .i64 0, .int .i64 1], 40)]) (w.heap.size + 1 + 1) 40 [.int .i64 0, .int .i64 0, .int .i64 0, .int .i64 0]) := box_has [cL a b c, ([.int .i64 0, .int .i64 0, .int .i64 0], 23), ([.int .i64 0, .int .i64 0, .int .i64 0, .int .i64 0], 40), ([.int .i64 1, .int .i64 0, .int .i64 0, .int .i64 1], 40)] (w := w) (Below.refl _ _) (i := 2) rfl
  have G3 : Hid (Has (boxW w [cL a b c, ([.int .i64 0, .int .i64 0, .int .i64 0], 23), ([.int .i64 0, .int .i64 0, .int .i64 0, .int .i64 0], 40), ([.int .i64 1, .int .i64 0, .int .i64 0, .int .i64 1], 40)]) (w.heap.size + 1 + 1 + 1) 40 [.int .i64 1, .int .i64 0, .int .i64 0, .int .i64 1]) := box_has [cL a b c, ([.int .i64 0, .int .i64 0, .int .i64 0], 23), ([.int .i64 0, .int .i64 0, .int .i64 0, .int .i64 0], 40), ([.int .i64 1, .int .i64 0, .int .i64 0, .int .i64 1], 40)] (w := w) (Below.refl _ _) (i := 3) rfl
  have B0 := Lib.hid (boxW_below [cL a b c, ([.int .i64 0, .int .i64 0, .int .i64 0], 23), ([.int .i64 0, .int .i64 0, .int .i64 0, .int .i64 0], 40), ([.int .i64 1, .int .i64 0, .int .i64 0, .int .i64 1], 40)] w)
  obtain ⟨W1, hW1⟩ : ∃ W1, W1 = boxW w [cL a b c, ([.int .i64 0, .int .i64 0, .int .i64 0], 23), ([.int .i64 0, .int .i64 0, .int .i64 0, .int .i64 0], 40), ([.int .i64 1, .int .i64 0, .int .i64 0, .int .i64 1], 40)] := ⟨_, rfl⟩
  rw [← hW1] at G0 G1 G2 G3 B0
  go_enter Try.func63, Try.ntmps63
  go_wp2
  rw [show (((w.alloc (.cells #[.int .i64 a, .int .i64 b, .int .i64 c] 23)).alloc (.cells #[.int .i64 0, .int .i64 0, .int .i64 0] 23)).alloc (.cells #[.int .i64 0, .int .i64 0, .int .i64 0, .int .i64 0] 40)).alloc (.cells #[.int .i64 1, .int .i64 0, .int .i64 0, .int .i64 1] 40) = W1 from hW1.symm]
  clear hW1
  go_loopw [5] (fun _ wr => ∃ (x y z p q r s : Int), Hid (Has wr (w.heap.size) 23 [.int .i64 x, .int .i64 y, .int .i64 z]) ∧ Hid (Has wr (w.heap.size + 1) 23 [.int .i64 0, .int .i64 0, .int .i64 0]) ∧ Hid (Has wr (w.heap.size + 1 + 1) 40 [.int .i64 0, .int .i64 0, .int .i64 0, .int .i64 0]) ∧ Hid (Has wr (w.heap.size + 1 + 1 + 1) 40 [.int .i64 p, .int .i64 q, .int .i64 r, .int .i64 s]) ∧ Hid (Below w.heap.size w wr) ∧ Hid (La.St ⟨a, b, c⟩ ⟨x, y, z⟩ ⟨p, q, r, s⟩)) (fun _ wr => natAt wr w.heap.size 0)
  case atStart => exact ⟨a, b, c, 1, 0, 0, 1, G0, G1, G2, G3, B0, ST0⟩
  case round =>
    clear G0 G1 G2 G3 B0 ST0
    obtain ⟨x, y, z, p, q, r, s, G0, G1, G2, G3, HB, ST⟩ := hrel
    obtain ⟨wo, rfl⟩ : ∃ wo : World, wo = wr := ⟨_, rfl⟩
    obtain ⟨⟨fp, fr⟩, ⟨fq, fs⟩⟩ := ST.out.fit HV.out HAC.out.1 HAC.out.2
    have hx1 : 1 ≤ x := ST.out.v.a1
    have hz1 : 1 ≤ z := ST.out.v.c1
    have hx2 : x ≤ 10000 := ST.out.ba
    have hz2 : z ≤ 10000 := ST.out.bc
    have hy : -10000 ≤ y ∧ y ≤ 10000 := ST.out.v.b_lt hx2 hz2
    have HM : Hid (natAt wo w.heap.size 0 = x.toNat) := natAt_eq (G0.out.cell 0)
    simp only at fp fq fr fs
    obtain ⟨k, hk⟩ : ∃ k, k = (2 * y + x) / (2 * x) := ⟨_, rfl⟩
    have hki : -15000 ≤ k ∧ k ≤ 15000 := by rw [hk]; exact La.k_in hx1 hx2 hy
    have hh1 : -x ≤ 2 * (y - k * x) ∧ 2 * (y - k * x) < x := by rw [hk]; exact La.k_half hx1
    have hcl := La.c_le ST.out.v (k := k) hk
    have ST1 := Lib.hid (ST.out.step (k := k) hk)
    have CF : Hid (∀ W : World, Calls Try.prog 88 #[.int .i64 (2 * y + x), .int .i64 (2 * x)] W fun e w' => e = .returned (.int .i64 k) ∧ W = w') := fun W => by rw [hk]; exact floorC (2 * y + x) (2 * x) W (by omega) ⟨by omega, by omega⟩ (by omega)
    have CT := Lib.hid (fun W => timesC p q r s 1 (-k) 0 1 10000 15000 W fp fq fr fs ⟨by omega, by omega⟩ ⟨by omega, by omega⟩ ⟨by omega, by omega⟩ ⟨by omega, by omega⟩ (by decide))
    have i1 : IntKind.i64.wrap (2 * y) = 2 * y := IntWalk.i64_in _ (by omega)
    have i2 : IntKind.i64.wrap (2 * y + x) = 2 * y + x := IntWalk.i64_in _ (by omega)
    have i3 : IntKind.i64.wrap (2 * x) = 2 * x := IntWalk.i64_in _ (by omega)
    have i4 : IntKind.i64.wrap (-k) = -k := IntWalk.i64_in _ (by omega)
    have m1 := mbg (M := 15000) (N := 10000) hki (show In6 10000 x from ⟨by omega, hx2⟩) (by decide)
    have m2 := mbg (M := 15000) (N := 10000) hki hy (by decide)
    have m3 := mbg (M := 15000) (N := 15000) hki hki (by decide)
    have hkk := mb 15000 15000 225000000 hki hki (by decide)
    have m4 := mbg (M := 225000000) (N := 10000) (a := k * k) (b := x) hkk ⟨by omega, hx2⟩ (by decide)
    have hkx := mb 15000 10000 150000000 hki (show In6 10000 x from ⟨by omega, hx2⟩) (by decide)
    have hky := mb 15000 10000 150000000 hki hy (by decide)
    have e2k : 2 * k * y = 2 * (k * y) := by rw [Int.mul_assoc]
    have hkkx := mb 225000000 10000 2250000000000 hkk (show In6 10000 x from ⟨by omega, hx2⟩) (by decide)
    have j1 : IntKind.i64.wrap (k * x) = k * x := IntWalk.i64_in _ (by omega)
    have j2 : IntKind.i64.wrap (y - k * x) = y - k * x := IntWalk.i64_in _ (by omega)
    have j3 : IntKind.i64.wrap (2 * k) = 2 * k := IntWalk.i64_in _ (by omega)
    have j4 : IntKind.i64.wrap (2 * k * y) = 2 * k * y := IntWalk.i64_in _ (by omega)
    have j5 : IntKind.i64.wrap (z - 2 * k * y) = z - 2 * k * y := IntWalk.i64_in _ (by omega)
    have j6 : IntKind.i64.wrap (k * k) = k * k := IntWalk.i64_in _ (by omega)
    have j7 : IntKind.i64.wrap (k * k * x) = k * k * x := IntWalk.i64_in _ (by omega)
    have j8 : IntKind.i64.wrap (z - 2 * k * y + k * k * x) = z - 2 * k * y + k * k * x := IntWalk.i64_in _ (by omega)
    have HH : Hid ((-x ≤ 2 * (y - k * x) ∧ 2 * (y - k * x) < x) ∧ 1 ≤ z - 2 * k * y + k * k * x ∧ z - 2 * k * y + k * k * x ≤ z) := ⟨hh1, hcl⟩
    clear m1 m2 m3 m4 hkx hky hkk hkkx e2k hk hh1 hcl ST fp fq fr fs
    have c0 : wo.cell? ⟨w.heap.size, 0, none⟩ = some (.int .i64 x) := G0.out.cell 0
    have fc0 : wo.frozen? ⟨w.heap.size, 0, none⟩ = false := G0.out.free 0
    have c1 : wo.cell? ⟨w.heap.size, 1, none⟩ = some (.int .i64 y) := G0.out.cell 1
    have fc1 : wo.frozen? ⟨w.heap.size, 1, none⟩ = false := G0.out.free 1
    have c2 : wo.cell? ⟨w.heap.size, 2, none⟩ = some (.int .i64 z) := G0.out.cell 2
    have fc2 : wo.frozen? ⟨w.heap.size, 2, none⟩ = false := G0.out.free 2
    go_wp2_with fail
    refine (CF.out _).mono ?_
    rintro e w1 ⟨rfl, rfl⟩
    have d0 : wo.cell? ⟨w.heap.size + 1 + 1 + 1, 0, none⟩ = some (.int .i64 p) := G3.out.cell 0
    have fd0 : wo.frozen? ⟨w.heap.size + 1 + 1 + 1, 0, none⟩ = false := G3.out.free 0
    have d1 : wo.cell? ⟨w.heap.size + 1 + 1 + 1, 1, none⟩ = some (.int .i64 q) := G3.out.cell 1
    have fd1 : wo.frozen? ⟨w.heap.size + 1 + 1 + 1, 1, none⟩ = false := G3.out.free 1
    have d2 : wo.cell? ⟨w.heap.size + 1 + 1 + 1, 2, none⟩ = some (.int .i64 r) := G3.out.cell 2
    have fd2 : wo.frozen? ⟨w.heap.size + 1 + 1 + 1, 2, none⟩ = false := G3.out.free 2
    have d3 : wo.cell? ⟨w.heap.size + 1 + 1 + 1, 3, none⟩ = some (.int .i64 s) := G3.out.cell 3
    have fd3 : wo.frozen? ⟨w.heap.size + 1 + 1 + 1, 3, none⟩ = false := G3.out.free 3
    go_wp2_with fail
    refine (CT.out _).mono ?_
    rintro e w3 ⟨rfl, hb3⟩
    replace ST1 : Hid (La.St ⟨a, b, c⟩ ⟨x, y - k * x, z - 2 * k * y + k * k * x⟩ ⟨p * 1 + q * 0, p * -k + q * 1, r * 1 + s * 0, r * -k + s * 1⟩) := ST1
    generalize p * 1 + q * 0 = P1, p * -k + q * 1 = Q1, r * 1 + s * 0 = R1, r * -k + s * 1 = S1 at *
    replace G0 : Hid (Has w3 (w.heap.size) 23 [.int .i64 x, .int .i64 y, .int .i64 z]) := G0.out.below hb3 G0.out.lt
    replace G1 : Hid (Has w3 (w.heap.size + 1) 23 [.int .i64 0, .int .i64 0, .int .i64 0]) := G1.out.below hb3 G1.out.lt
    replace G2 : Hid (Has w3 (w.heap.size + 1 + 1) 40 [.int .i64 0, .int .i64 0, .int .i64 0, .int .i64 0]) := G2.out.below hb3 G2.out.lt
    replace G3 : Hid (Has w3 (w.heap.size + 1 + 1 + 1) 40 [.int .i64 p, .int .i64 q, .int .i64 r, .int .i64 s]) := G3.out.below hb3 G3.out.lt
    replace HB := Lib.hid (bvia HB.out hb3)
    clear hb3 c0 fc0 c1 fc1 c2 fc2 d0 fd0 d1 fd1 d2 fd2 d3 fd3
    have d0 : w3.cell? ⟨w.heap.size + 1 + 1 + 1, 0, none⟩ = some (.int .i64 p) := G3.out.cell 0
    have fd0 : w3.frozen? ⟨w.heap.size + 1 + 1 + 1, 0, none⟩ = false := G3.out.free 0
    have d1 : w3.cell? ⟨w.heap.size + 1 + 1 + 1, 1, none⟩ = some (.int .i64 q) := G3.out.cell 1
    have fd1 : w3.frozen? ⟨w.heap.size + 1 + 1 + 1, 1, none⟩ = false := G3.out.free 1
    have d2 : w3.cell? ⟨w.heap.size + 1 + 1 + 1, 2, none⟩ = some (.int .i64 r) := G3.out.cell 2
    have fd2 : w3.frozen? ⟨w.heap.size + 1 + 1 + 1, 2, none⟩ = false := G3.out.free 2
    have d3 : w3.cell? ⟨w.heap.size + 1 + 1 + 1, 3, none⟩ = some (.int .i64 s) := G3.out.cell 3
    have fd3 : w3.frozen? ⟨w.heap.size + 1 + 1 + 1, 3, none⟩ = false := G3.out.free 3
    go_upto_region 4 with (fail)
    replace G0 : Hid (Has ((((w3.setCell ⟨w.heap.size + 1 + 1 + 1, 0, none⟩ (.int .i64 P1)).setCell ⟨w.heap.size + 1 + 1 + 1, 1, none⟩ (.int .i64 Q1)).setCell ⟨w.heap.size + 1 + 1 + 1, 2, none⟩ (.int .i64 R1)).setCell ⟨w.heap.size + 1 + 1 + 1, 3, none⟩ (.int .i64 S1)) (w.heap.size) 23 [.int .i64 x, .int .i64 y, .int .i64 z]) := ((((G0.out.far (by omega) 0 _).far (by omega) 1 _).far (by omega) 2 _).far (by omega) 3 _)
    replace G1 : Hid (Has ((((w3.setCell ⟨w.heap.size + 1 + 1 + 1, 0, none⟩ (.int .i64 P1)).setCell ⟨w.heap.size + 1 + 1 + 1, 1, none⟩ (.int .i64 Q1)).setCell ⟨w.heap.size + 1 + 1 + 1, 2, none⟩ (.int .i64 R1)).setCell ⟨w.heap.size + 1 + 1 + 1, 3, none⟩ (.int .i64 S1)) (w.heap.size + 1) 23 [.int .i64 0, .int .i64 0, .int .i64 0]) := ((((G1.out.far (by omega) 0 _).far (by omega) 1 _).far (by omega) 2 _).far (by omega) 3 _)
    replace G2 : Hid (Has ((((w3.setCell ⟨w.heap.size + 1 + 1 + 1, 0, none⟩ (.int .i64 P1)).setCell ⟨w.heap.size + 1 + 1 + 1, 1, none⟩ (.int .i64 Q1)).setCell ⟨w.heap.size + 1 + 1 + 1, 2, none⟩ (.int .i64 R1)).setCell ⟨w.heap.size + 1 + 1 + 1, 3, none⟩ (.int .i64 S1)) (w.heap.size + 1 + 1) 40 [.int .i64 0, .int .i64 0, .int .i64 0, .int .i64 0]) := ((((G2.out.far (by omega) 0 _).far (by omega) 1 _).far (by omega) 2 _).far (by omega) 3 _)
    replace G3 : Hid (Has ((((w3.setCell ⟨w.heap.size + 1 + 1 + 1, 0, none⟩ (.int .i64 P1)).setCell ⟨w.heap.size + 1 + 1 + 1, 1, none⟩ (.int .i64 Q1)).setCell ⟨w.heap.size + 1 + 1 + 1, 2, none⟩ (.int .i64 R1)).setCell ⟨w.heap.size + 1 + 1 + 1, 3, none⟩ (.int .i64 S1)) (w.heap.size + 1 + 1 + 1) 40 [.int .i64 P1, .int .i64 Q1, .int .i64 R1, .int .i64 S1]) := ((((G3.out.set 0 (.int .i64 P1)).set 1 (.int .i64 Q1)).set 2 (.int .i64 R1)).set 3 (.int .i64 S1))
    replace HB := Lib.hid ((((HB.out.setCell (p := ⟨w.heap.size + 1 + 1 + 1, 0, none⟩) (show w.heap.size ≤ w.heap.size + 1 + 1 + 1 by omega) (.int .i64 P1)).setCell (p := ⟨w.heap.size + 1 + 1 + 1, 1, none⟩) (show w.heap.size ≤ w.heap.size + 1 + 1 + 1 by omega) (.int .i64 Q1)).setCell (p := ⟨w.heap.size + 1 + 1 + 1, 2, none⟩) (show w.heap.size ≤ w.heap.size + 1 + 1 + 1 by omega) (.int .i64 R1)).setCell (p := ⟨w.heap.size + 1 + 1 + 1, 3, none⟩) (show w.heap.size ≤ w.heap.size + 1 + 1 + 1 by omega) (.int .i64 S1))
    clear d0 fd0 d1 fd1 d2 fd2 d3 fd3
    generalize ((((w3.setCell ⟨w.heap.size + 1 + 1 + 1, 0, none⟩ (.int .i64 P1)).setCell ⟨w.heap.size + 1 + 1 + 1, 1, none⟩ (.int .i64 Q1)).setCell ⟨w.heap.size + 1 + 1 + 1, 2, none⟩ (.int .i64 R1)).setCell ⟨w.heap.size + 1 + 1 + 1, 3, none⟩ (.int .i64 S1)) = W4 at *
    have c0 : W4.cell? ⟨w.heap.size, 0, none⟩ = some (.int .i64 x) := G0.out.cell 0
    have fc0 : W4.frozen? ⟨w.heap.size, 0, none⟩ = false := G0.out.free 0
    have c1 : W4.cell? ⟨w.heap.size, 1, none⟩ = some (.int .i64 y) := G0.out.cell 1
    have fc1 : W4.frozen? ⟨w.heap.size, 1, none⟩ = false := G0.out.free 1
    have c2 : W4.cell? ⟨w.heap.size, 2, none⟩ = some (.int .i64 z) := G0.out.cell 2
    have fc2 : W4.frozen? ⟨w.heap.size, 2, none⟩ = false := G0.out.free 2
    go_upto_region 5 with (fail)
    obtain ⟨⟨n1, n2⟩, n3, n4⟩ := HH.out
    replace G0 : Hid (Has (((W4.setCell ⟨w.heap.size, 0, none⟩ (.int .i64 x)).setCell ⟨w.heap.size, 1, none⟩ (.int .i64 (y - k * x))).setCell ⟨w.heap.size, 2, none⟩ (.int .i64 (z - 2 * k * y + k * k * x))) (w.heap.size) 23 [.int .i64 x, .int .i64 (y - k * x), .int .i64 (z - 2 * k * y + k * k * x)]) := (((G0.out.set 0 (.int .i64 x)).set 1 (.int .i64 (y - k * x))).set 2 (.int .i64 (z - 2 * k * y + k * k * x)))
    replace G1 : Hid (Has (((W4.setCell ⟨w.heap.size, 0, none⟩ (.int .i64 x)).setCell ⟨w.heap.size, 1, none⟩ (.int .i64 (y - k * x))).setCell ⟨w.heap.size, 2, none⟩ (.int .i64 (z - 2 * k * y + k * k * x))) (w.heap.size + 1) 23 [.int .i64 0, .int .i64 0, .int .i64 0]) := (((G1.out.far (by omega) 0 _).far (by omega) 1 _).far (by omega) 2 _)
    replace G2 : Hid (Has (((W4.setCell ⟨w.heap.size, 0, none⟩ (.int .i64 x)).setCell ⟨w.heap.size, 1, none⟩ (.int .i64 (y - k * x))).setCell ⟨w.heap.size, 2, none⟩ (.int .i64 (z - 2 * k * y + k * k * x))) (w.heap.size + 1 + 1) 40 [.int .i64 0, .int .i64 0, .int .i64 0, .int .i64 0]) := (((G2.out.far (by omega) 0 _).far (by omega) 1 _).far (by omega) 2 _)
    replace G3 : Hid (Has (((W4.setCell ⟨w.heap.size, 0, none⟩ (.int .i64 x)).setCell ⟨w.heap.size, 1, none⟩ (.int .i64 (y - k * x))).setCell ⟨w.heap.size, 2, none⟩ (.int .i64 (z - 2 * k * y + k * k * x))) (w.heap.size + 1 + 1 + 1) 40 [.int .i64 P1, .int .i64 Q1, .int .i64 R1, .int .i64 S1]) := (((G3.out.far (by omega) 0 _).far (by omega) 1 _).far (by omega) 2 _)
    replace HB := Lib.hid (((HB.out.setCell (p := ⟨w.heap.size, 0, none⟩) (show w.heap.size ≤ w.heap.size by omega) (.int .i64 x)).setCell (p := ⟨w.heap.size, 1, none⟩) (show w.heap.size ≤ w.heap.size by omega) (.int .i64 (y - k * x))).setCell (p := ⟨w.heap.size, 2, none⟩) (show w.heap.size ≤ w.heap.size by omega) (.int .i64 (z - 2 * k * y + k * k * x)))
    clear c0 fc0 c1 fc1 c2 fc2
    generalize (((W4.setCell ⟨w.heap.size, 0, none⟩ (.int .i64 x)).setCell ⟨w.heap.size, 1, none⟩ (.int .i64 (y - k * x))).setCell ⟨w.heap.size, 2, none⟩ (.int .i64 (z - 2 * k * y + k * k * x))) = W5 at *
    clear HH CF CT i1 i2 i3 i4 j1 j2 j3 j4 j5 j6 j7 j8
    generalize y - k * x = Y, z - 2 * k * y + k * k * x = Z at *
    have i1 : IntKind.i64.wrap (-Y) = -Y := IntWalk.i64_in _ (by omega)
    obtain ⟨⟨fp, fr⟩, ⟨fq, fs⟩⟩ := ST1.out.fit HV.out HAC.out.1 HAC.out.2
    simp only at fp fq fr fs
    have i2 : IntKind.i64.wrap (-Q1) = -Q1 := IntWalk.i64_in _ (by omega)
    have i3 : IntKind.i64.wrap (-S1) = -S1 := IntWalk.i64_in _ (by omega)
    have c0 : W5.cell? ⟨w.heap.size, 0, none⟩ = some (.int .i64 x) := G0.out.cell 0
    have fc0 : W5.frozen? ⟨w.heap.size, 0, none⟩ = false := G0.out.free 0
    have c1 : W5.cell? ⟨w.heap.size, 1, none⟩ = some (.int .i64 Y) := G0.out.cell 1
    have fc1 : W5.frozen? ⟨w.heap.size, 1, none⟩ = false := G0.out.free 1
    have c2 : W5.cell? ⟨w.heap.size, 2, none⟩ = some (.int .i64 Z) := G0.out.cell 2
    have fc2 : W5.frozen? ⟨w.heap.size, 2, none⟩ = false := G0.out.free 2
    have d0 : W5.cell? ⟨w.heap.size + 1 + 1 + 1, 0, none⟩ = some (.int .i64 P1) := G3.out.cell 0
    have fd0 : W5.frozen? ⟨w.heap.size + 1 + 1 + 1, 0, none⟩ = false := G3.out.free 0
    have d1 : W5.cell? ⟨w.heap.size + 1 + 1 + 1, 1, none⟩ = some (.int .i64 Q1) := G3.out.cell 1
    have fd1 : W5.frozen? ⟨w.heap.size + 1 + 1 + 1, 1, none⟩ = false := G3.out.free 1
    have d2 : W5.cell? ⟨w.heap.size + 1 + 1 + 1, 2, none⟩ = some (.int .i64 R1) := G3.out.cell 2
    have fd2 : W5.frozen? ⟨w.heap.size + 1 + 1 + 1, 2, none⟩ = false := G3.out.free 2
    have d3 : W5.cell? ⟨w.heap.size + 1 + 1 + 1, 3, none⟩ = some (.int .i64 S1) := G3.out.cell 3
    have fd3 : W5.frozen? ⟨w.heap.size + 1 + 1 + 1, 3, none⟩ = false := G3.out.free 3
    by_cases hneg : Y < 0
    · replace ST1 := Lib.hid ST1.out.flip
      go_upto_region 7 with (fail)
      replace G0 : Hid (Has (W5.setCell ⟨w.heap.size, 1, none⟩ (.int .i64 (-Y))) (w.heap.size) 23 [.int .i64 x, .int .i64 (-Y), .int .i64 Z]) := (G0.out.set 1 (.int .i64 (-Y)))
      replace G1 : Hid (Has (W5.setCell ⟨w.heap.size, 1, none⟩ (.int .i64 (-Y))) (w.heap.size + 1) 23 [.int .i64 0, .int .i64 0, .int .i64 0]) := (G1.out.far (by omega) 1 _)
      replace G2 : Hid (Has (W5.setCell ⟨w.heap.size, 1, none⟩ (.int .i64 (-Y))) (w.heap.size + 1 + 1) 40 [.int .i64 0, .int .i64 0, .int .i64 0, .int .i64 0]) := (G2.out.far (by omega) 1 _)
      replace G3 : Hid (Has (W5.setCell ⟨w.heap.size, 1, none⟩ (.int .i64 (-Y))) (w.heap.size + 1 + 1 + 1) 40 [.int .i64 P1, .int .i64 Q1, .int .i64 R1, .int .i64 S1]) := (G3.out.far (by omega) 1 _)
      replace HB := Lib.hid (HB.out.setCell (p := ⟨w.heap.size, 1, none⟩) (show w.heap.size ≤ w.heap.size by omega) (.int .i64 (-Y)))
      clear c0 fc0 c1 fc1 c2 fc2 d0 fd0 d1 fd1 d2 fd2 d3 fd3
      generalize (W5.setCell ⟨w.heap.size, 1, none⟩ (.int .i64 (-Y))) = W6 at *
      have d0 : W6.cell? ⟨w.heap.size + 1 + 1 + 1, 0, none⟩ = some (.int .i64 P1) := G3.out.cell 0
      have fd0 : W6.frozen? ⟨w.heap.size + 1 + 1 + 1, 0, none⟩ = false := G3.out.free 0
      have d1 : W6.cell? ⟨w.heap.size + 1 + 1 + 1, 1, none⟩ = some (.int .i64 Q1) := G3.out.cell 1
      have fd1 : W6.frozen? ⟨w.heap.size + 1 + 1 + 1, 1, none⟩ = false := G3.out.free 1
      have d2 : W6.cell? ⟨w.heap.size + 1 + 1 + 1, 2, none⟩ = some (.int .i64 R1) := G3.out.cell 2
      have fd2 : W6.frozen? ⟨w.heap.size + 1 + 1 + 1, 2, none⟩ = false := G3.out.free 2
      have d3 : W6.cell? ⟨w.heap.size + 1 + 1 + 1, 3, none⟩ = some (.int .i64 S1) := G3.out.cell 3
      have fd3 : W6.frozen? ⟨w.heap.size + 1 + 1 + 1, 3, none⟩ = false := G3.out.free 3
      go_upto_region 8 with (fail)
      replace G0 : Hid (Has ((W6.setCell ⟨w.heap.size + 1 + 1 + 1, 1, none⟩ (.int .i64 (-Q1))).setCell ⟨w.heap.size + 1 + 1 + 1, 3, none⟩ (.int .i64 (-S1))) (w.heap.size) 23 [.int .i64 x, .int .i64 (-Y), .int .i64 Z]) := ((G0.out.far (by omega) 1 _).far (by omega) 3 _)
      replace G1 : Hid (Has ((W6.setCell ⟨w.heap.size + 1 + 1 + 1, 1, none⟩ (.int .i64 (-Q1))).setCell ⟨w.heap.size + 1 + 1 + 1, 3, none⟩ (.int .i64 (-S1))) (w.heap.size + 1) 23 [.int .i64 0, .int .i64 0, .int .i64 0]) := ((G1.out.far (by omega) 1 _).far (by omega) 3 _)
      replace G2 : Hid (Has ((W6.setCell ⟨w.heap.size + 1 + 1 + 1, 1, none⟩ (.int .i64 (-Q1))).setCell ⟨w.heap.size + 1 + 1 + 1, 3, none⟩ (.int .i64 (-S1))) (w.heap.size + 1 + 1) 40 [.int .i64 0, .int .i64 0, .int .i64 0, .int .i64 0]) := ((G2.out.far (by omega) 1 _).far (by omega) 3 _)
      replace G3 : Hid (Has ((W6.setCell ⟨w.heap.size + 1 + 1 + 1, 1, none⟩ (.int .i64 (-Q1))).setCell ⟨w.heap.size + 1 + 1 + 1, 3, none⟩ (.int .i64 (-S1))) (w.heap.size + 1 + 1 + 1) 40 [.int .i64 P1, .int .i64 (-Q1), .int .i64 R1, .int .i64 (-S1)]) := ((G3.out.set 1 (.int .i64 (-Q1))).set 3 (.int .i64 (-S1)))
      replace HB := Lib.hid ((HB.out.setCell (p := ⟨w.heap.size + 1 + 1 + 1, 1, none⟩) (show w.heap.size ≤ w.heap.size + 1 + 1 + 1 by omega) (.int .i64 (-Q1))).setCell (p := ⟨w.heap.size + 1 + 1 + 1, 3, none⟩) (show w.heap.size ≤ w.heap.size + 1 + 1 + 1 by omega) (.int .i64 (-S1)))
      clear d0 fd0 d1 fd1 d2 fd2 d3 fd3
      generalize ((W6.setCell ⟨w.heap.size + 1 + 1 + 1, 1, none⟩ (.int .i64 (-Q1))).setCell ⟨w.heap.size + 1 + 1 + 1, 3, none⟩ (.int .i64 (-S1))) = W7 at *
      have c0 : W7.cell? ⟨w.heap.size, 0, none⟩ = some (.int .i64 x) := G0.out.cell 0
      have fc0 : W7.frozen? ⟨w.heap.size, 0, none⟩ = false := G0.out.free 0
      have c1 : W7.cell? ⟨w.heap.size, 1, none⟩ = some (.int .i64 (-Y)) := G0.out.cell 1
      have fc1 : W7.frozen? ⟨w.heap.size, 1, none⟩ = false := G0.out.free 1
      have c2 : W7.cell? ⟨w.heap.size, 2, none⟩ = some (.int .i64 Z) := G0.out.cell 2
      have fc2 : W7.frozen? ⟨w.heap.size, 2, none⟩ = false := G0.out.free 2
      have d0 : W7.cell? ⟨w.heap.size + 1 + 1 + 1, 0, none⟩ = some (.int .i64 P1) := G3.out.cell 0
      have fd0 : W7.frozen? ⟨w.heap.size + 1 + 1 + 1, 0, none⟩ = false := G3.out.free 0
      have d1 : W7.cell? ⟨w.heap.size + 1 + 1 + 1, 1, none⟩ = some (.int .i64 (-Q1)) := G3.out.cell 1
      have fd1 : W7.frozen? ⟨w.heap.size + 1 + 1 + 1, 1, none⟩ = false := G3.out.free 1
      have d2 : W7.cell? ⟨w.heap.size + 1 + 1 + 1, 2, none⟩ = some (.int .i64 R1) := G3.out.cell 2
      have fd2 : W7.frozen? ⟨w.heap.size + 1 + 1 + 1, 2, none⟩ = false := G3.out.free 2
      have d3 : W7.cell? ⟨w.heap.size + 1 + 1 + 1, 3, none⟩ = some (.int .i64 (-S1)) := G3.out.cell 3
      have fd3 : W7.frozen? ⟨w.heap.size + 1 + 1 + 1, 3, none⟩ = false := G3.out.free 3
      by_cases hle : x ≤ Z
      · have HR : Hid (La.Red ⟨x, (-Y), Z⟩) := ⟨show (0 : Int) ≤ (-Y) by omega, show 2 * (-Y) ≤ x by omega, hle⟩
        go_upto_region 9 with (fail)
        refine wp_region_two [.q, .q, .st 0, .st 1] ⟨2, 67, some (w.heap.size + 1), 23, [.int .i64 0, .int .i64 0, .int .i64 0], [.int .i64 x, .int .i64 (-Y), .int .i64 Z], vL x (-Y) Z⟩ ⟨3, 68, some (w.heap.size + 1 + 1), 40, [.int .i64 0, .int .i64 0, .int .i64 0, .int .i64 0], [.int .i64 P1, .int .i64 (-Q1), .int .i64 R1, .int .i64 (-S1)], vM P1 (-Q1) R1 (-S1)⟩ (w.heap.size + 1) (w.heap.size + 1 + 1) ?aH1 rfl rfl (by omega) (by kernel_rfl) (by kernel_rfl) rfl rfl G1.out G2.out ?hq1 ?hv1 ?hw1 ?hA1 ?he1
        case hq1 =>
          intro w8 h8
          have k0 := h8.has G0.out (by simp; try omega)
          have k3 := h8.has G3.out (by simp; try omega)
          have c0 : w8.cell? ⟨w.heap.size, 0, none⟩ = some (.int .i64 x) := k0.cell 0
          have c1 : w8.cell? ⟨w.heap.size, 1, none⟩ = some (.int .i64 (-Y)) := k0.cell 1
          have c2 : w8.cell? ⟨w.heap.size, 2, none⟩ = some (.int .i64 Z) := k0.cell 2
          have d0 : w8.cell? ⟨w.heap.size + 1 + 1 + 1, 0, none⟩ = some (.int .i64 P1) := k3.cell 0
          have d1 : w8.cell? ⟨w.heap.size + 1 + 1 + 1, 1, none⟩ = some (.int .i64 (-Q1)) := k3.cell 1
          have d2 : w8.cell? ⟨w.heap.size + 1 + 1 + 1, 2, none⟩ = some (.int .i64 R1) := k3.cell 2
          have d3 : w8.cell? ⟨w.heap.size + 1 + 1 + 1, 3, none⟩ = some (.int .i64 (-S1)) := k3.cell 3
          have q0 := k0.lt
          have q3 := k3.lt
          have hxc := fun (x : Ext w8) => x.cell
          clear k0 k3 h8
          show wpQuiet _ _ _ _ [_, _] _
          repeat (go_big_quiet_step (fail))
          refine wpQuiet_nil ?_
          rfl
        case hv1 => simp
        case hw1 => simp
        case hA1 =>
          refine ⟨fun x hx => ?_, fun x hx => ?_, trivial⟩ <;> (obtain rfl := Option.some.inj hx)
          · exact stOk_agg rfl rfl (by kernel_rfl) rfl (by kernel_rfl)
          · exact stOk_agg rfl rfl (by kernel_rfl) rfl (by kernel_rfl)
        case he1 =>
          intro w8 h8 K1 K2
          go_wp2
          have hlt := G0.out.lt
          refine post_cell2 K1 K2 Try.results63 rfl rfl rfl Try.underlying23 (by kernel_rfl) Try.underlying40 (by kernel_rfl) ⟨⟨⟨x, (-Y), Z⟩, ⟨P1, (-Q1), R1, (-S1)⟩, rfl, ST1.out, HR.out⟩, HB.out.trans (h8.below' (Nat.le_of_lt hlt) (by simp; try omega))⟩
      · go_upto_region 11 with (fail)
        replace G0 : Hid (Has ((W7.setCell ⟨w.heap.size, 0, none⟩ (.int .i64 Z)).setCell ⟨w.heap.size, 2, none⟩ (.int .i64 x)) (w.heap.size) 23 [.int .i64 Z, .int .i64 (-Y), .int .i64 x]) := ((G0.out.set 0 (.int .i64 Z)).set 2 (.int .i64 x))
        replace G1 : Hid (Has ((W7.setCell ⟨w.heap.size, 0, none⟩ (.int .i64 Z)).setCell ⟨w.heap.size, 2, none⟩ (.int .i64 x)) (w.heap.size + 1) 23 [.int .i64 0, .int .i64 0, .int .i64 0]) := ((G1.out.far (by omega) 0 _).far (by omega) 2 _)
        replace G2 : Hid (Has ((W7.setCell ⟨w.heap.size, 0, none⟩ (.int .i64 Z)).setCell ⟨w.heap.size, 2, none⟩ (.int .i64 x)) (w.heap.size + 1 + 1) 40 [.int .i64 0, .int .i64 0, .int .i64 0, .int .i64 0]) := ((G2.out.far (by omega) 0 _).far (by omega) 2 _)
        replace G3 : Hid (Has ((W7.setCell ⟨w.heap.size, 0, none⟩ (.int .i64 Z)).setCell ⟨w.heap.size, 2, none⟩ (.int .i64 x)) (w.heap.size + 1 + 1 + 1) 40 [.int .i64 P1, .int .i64 (-Q1), .int .i64 R1, .int .i64 (-S1)]) := ((G3.out.far (by omega) 0 _).far (by omega) 2 _)
        replace HB := Lib.hid ((HB.out.setCell (p := ⟨w.heap.size, 0, none⟩) (show w.heap.size ≤ w.heap.size by omega) (.int .i64 Z)).setCell (p := ⟨w.heap.size, 2, none⟩) (show w.heap.size ≤ w.heap.size by omega) (.int .i64 x))
        clear c0 fc0 c1 fc1 c2 fc2 d0 fd0 d1 fd1 d2 fd2 d3 fd3
        generalize ((W7.setCell ⟨w.heap.size, 0, none⟩ (.int .i64 Z)).setCell ⟨w.heap.size, 2, none⟩ (.int .i64 x)) = V1 at *
        have d0 : V1.cell? ⟨w.heap.size + 1 + 1 + 1, 0, none⟩ = some (.int .i64 P1) := G3.out.cell 0
        have fd0 : V1.frozen? ⟨w.heap.size + 1 + 1 + 1, 0, none⟩ = false := G3.out.free 0
        have d1 : V1.cell? ⟨w.heap.size + 1 + 1 + 1, 1, none⟩ = some (.int .i64 (-Q1)) := G3.out.cell 1
        have fd1 : V1.frozen? ⟨w.heap.size + 1 + 1 + 1, 1, none⟩ = false := G3.out.free 1
        have d2 : V1.cell? ⟨w.heap.size + 1 + 1 + 1, 2, none⟩ = some (.int .i64 R1) := G3.out.cell 2
        have fd2 : V1.frozen? ⟨w.heap.size + 1 + 1 + 1, 2, none⟩ = false := G3.out.free 2
        have d3 : V1.cell? ⟨w.heap.size + 1 + 1 + 1, 3, none⟩ = some (.int .i64 (-S1)) := G3.out.cell 3
        have fd3 : V1.frozen? ⟨w.heap.size + 1 + 1 + 1, 3, none⟩ = false := G3.out.free 3
        go_wp2
        replace G0 : Hid (Has ((((V1.setCell ⟨w.heap.size + 1 + 1 + 1, 0, none⟩ (.int .i64 (-Q1))).setCell ⟨w.heap.size + 1 + 1 + 1, 1, none⟩ (.int .i64 P1)).setCell ⟨w.heap.size + 1 + 1 + 1, 2, none⟩ (.int .i64 (-S1))).setCell ⟨w.heap.size + 1 + 1 + 1, 3, none⟩ (.int .i64 R1)) (w.heap.size) 23 [.int .i64 Z, .int .i64 (-Y), .int .i64 x]) := ((((G0.out.far (by omega) 0 _).far (by omega) 1 _).far (by omega) 2 _).far (by omega) 3 _)
        replace G1 : Hid (Has ((((V1.setCell ⟨w.heap.size + 1 + 1 + 1, 0, none⟩ (.int .i64 (-Q1))).setCell ⟨w.heap.size + 1 + 1 + 1, 1, none⟩ (.int .i64 P1)).setCell ⟨w.heap.size + 1 + 1 + 1, 2, none⟩ (.int .i64 (-S1))).setCell ⟨w.heap.size + 1 + 1 + 1, 3, none⟩ (.int .i64 R1)) (w.heap.size + 1) 23 [.int .i64 0, .int .i64 0, .int .i64 0]) := ((((G1.out.far (by omega) 0 _).far (by omega) 1 _).far (by omega) 2 _).far (by omega) 3 _)
        replace G2 : Hid (Has ((((V1.setCell ⟨w.heap.size + 1 + 1 + 1, 0, none⟩ (.int .i64 (-Q1))).setCell ⟨w.heap.size + 1 + 1 + 1, 1, none⟩ (.int .i64 P1)).setCell ⟨w.heap.size + 1 + 1 + 1, 2, none⟩ (.int .i64 (-S1))).setCell ⟨w.heap.size + 1 + 1 + 1, 3, none⟩ (.int .i64 R1)) (w.heap.size + 1 + 1) 40 [.int .i64 0, .int .i64 0, .int .i64 0, .int .i64 0]) := ((((G2.out.far (by omega) 0 _).far (by omega) 1 _).far (by omega) 2 _).far (by omega) 3 _)
        replace G3 : Hid (Has ((((V1.setCell ⟨w.heap.size + 1 + 1 + 1, 0, none⟩ (.int .i64 (-Q1))).setCell ⟨w.heap.size + 1 + 1 + 1, 1, none⟩ (.int .i64 P1)).setCell ⟨w.heap.size + 1 + 1 + 1, 2, none⟩ (.int .i64 (-S1))).setCell ⟨w.heap.size + 1 + 1 + 1, 3, none⟩ (.int .i64 R1)) (w.heap.size + 1 + 1 + 1) 40 [.int .i64 (-Q1), .int .i64 P1, .int .i64 (-S1), .int .i64 R1]) := ((((G3.out.set 0 (.int .i64 (-Q1))).set 1 (.int .i64 P1)).set 2 (.int .i64 (-S1))).set 3 (.int .i64 R1))
        replace HB := Lib.hid ((((HB.out.setCell (p := ⟨w.heap.size + 1 + 1 + 1, 0, none⟩) (show w.heap.size ≤ w.heap.size + 1 + 1 + 1 by omega) (.int .i64 (-Q1))).setCell (p := ⟨w.heap.size + 1 + 1 + 1, 1, none⟩) (show w.heap.size ≤ w.heap.size + 1 + 1 + 1 by omega) (.int .i64 P1)).setCell (p := ⟨w.heap.size + 1 + 1 + 1, 2, none⟩) (show w.heap.size ≤ w.heap.size + 1 + 1 + 1 by omega) (.int .i64 (-S1))).setCell (p := ⟨w.heap.size + 1 + 1 + 1, 3, none⟩) (show w.heap.size ≤ w.heap.size + 1 + 1 + 1 by omega) (.int .i64 R1))
        clear d0 fd0 d1 fd1 d2 fd2 d3 fd3
        have hm : natAt ((((V1.setCell ⟨w.heap.size + 1 + 1 + 1, 0, none⟩ (.int .i64 (-Q1))).setCell ⟨w.heap.size + 1 + 1 + 1, 1, none⟩ (.int .i64 P1)).setCell ⟨w.heap.size + 1 + 1 + 1, 2, none⟩ (.int .i64 (-S1))).setCell ⟨w.heap.size + 1 + 1 + 1, 3, none⟩ (.int .i64 R1)) w.heap.size 0 = Z.toNat := natAt_eq (G0.out.cell 0)
        refine ⟨⟨Z, (-Y), x, (-Q1), P1, (-S1), R1, G0, G1, G2, G3, HB, Lib.hid ST1.out.swp⟩, ?_⟩
        show natAt _ _ _ < natAt _ _ _
        rw [hm, HM.out]
        omega
    · go_upto_region 8 with (fail)
      by_cases hle : x ≤ Z
      · have HR : Hid (La.Red ⟨x, Y, Z⟩) := ⟨show (0 : Int) ≤ Y by omega, show 2 * Y ≤ x by omega, hle⟩
        go_upto_region 9 with (fail)
        refine wp_region_two [.q, .q, .st 0, .st 1] ⟨2, 67, some (w.heap.size + 1), 23, [.int .i64 0, .int .i64 0, .int .i64 0], [.int .i64 x, .int .i64 Y, .int .i64 Z], vL x Y Z⟩ ⟨3, 68, some (w.heap.size + 1 + 1), 40, [.int .i64 0, .int .i64 0, .int .i64 0, .int .i64 0], [.int .i64 P1, .int .i64 Q1, .int .i64 R1, .int .i64 S1], vM P1 Q1 R1 S1⟩ (w.heap.size + 1) (w.heap.size + 1 + 1) ?aH2 rfl rfl (by omega) (by kernel_rfl) (by kernel_rfl) rfl rfl G1.out G2.out ?hq2 ?hv2 ?hw2 ?hA2 ?he2
        case hq2 =>
          intro w8 h8
          have k0 := h8.has G0.out (by simp; try omega)
          have k3 := h8.has G3.out (by simp; try omega)
          have c0 : w8.cell? ⟨w.heap.size, 0, none⟩ = some (.int .i64 x) := k0.cell 0
          have c1 : w8.cell? ⟨w.heap.size, 1, none⟩ = some (.int .i64 Y) := k0.cell 1
          have c2 : w8.cell? ⟨w.heap.size, 2, none⟩ = some (.int .i64 Z) := k0.cell 2
          have d0 : w8.cell? ⟨w.heap.size + 1 + 1 + 1, 0, none⟩ = some (.int .i64 P1) := k3.cell 0
          have d1 : w8.cell? ⟨w.heap.size + 1 + 1 + 1, 1, none⟩ = some (.int .i64 Q1) := k3.cell 1
          have d2 : w8.cell? ⟨w.heap.size + 1 + 1 + 1, 2, none⟩ = some (.int .i64 R1) := k3.cell 2
          have d3 : w8.cell? ⟨w.heap.size + 1 + 1 + 1, 3, none⟩ = some (.int .i64 S1) := k3.cell 3
          have q0 := k0.lt
          have q3 := k3.lt
          have hxc := fun (x : Ext w8) => x.cell
          clear k0 k3 h8
          show wpQuiet _ _ _ _ [_, _] _
          repeat (go_big_quiet_step (fail))
          refine wpQuiet_nil ?_
          rfl
        case hv2 => simp
        case hw2 => simp
        case hA2 =>
          refine ⟨fun x hx => ?_, fun x hx => ?_, trivial⟩ <;> (obtain rfl := Option.some.inj hx)
          · exact stOk_agg rfl rfl (by kernel_rfl) rfl (by kernel_rfl)
          · exact stOk_agg rfl rfl (by kernel_rfl) rfl (by kernel_rfl)
        case he2 =>
          intro w8 h8 K1 K2
          go_wp2
          have hlt := G0.out.lt
          refine post_cell2 K1 K2 Try.results63 rfl rfl rfl Try.underlying23 (by kernel_rfl) Try.underlying40 (by kernel_rfl) ⟨⟨⟨x, Y, Z⟩, ⟨P1, Q1, R1, S1⟩, rfl, ST1.out, HR.out⟩, HB.out.trans (h8.below' (Nat.le_of_lt hlt) (by simp; try omega))⟩
      · go_upto_region 11 with (fail)
        replace G0 : Hid (Has ((W5.setCell ⟨w.heap.size, 0, none⟩ (.int .i64 Z)).setCell ⟨w.heap.size, 2, none⟩ (.int .i64 x)) (w.heap.size) 23 [.int .i64 Z, .int .i64 Y, .int .i64 x]) := ((G0.out.set 0 (.int .i64 Z)).set 2 (.int .i64 x))
        replace G1 : Hid (Has ((W5.setCell ⟨w.heap.size, 0, none⟩ (.int .i64 Z)).setCell ⟨w.heap.size, 2, none⟩ (.int .i64 x)) (w.heap.size + 1) 23 [.int .i64 0, .int .i64 0, .int .i64 0]) := ((G1.out.far (by omega) 0 _).far (by omega) 2 _)
        replace G2 : Hid (Has ((W5.setCell ⟨w.heap.size, 0, none⟩ (.int .i64 Z)).setCell ⟨w.heap.size, 2, none⟩ (.int .i64 x)) (w.heap.size + 1 + 1) 40 [.int .i64 0, .int .i64 0, .int .i64 0, .int .i64 0]) := ((G2.out.far (by omega) 0 _).far (by omega) 2 _)
        replace G3 : Hid (Has ((W5.setCell ⟨w.heap.size, 0, none⟩ (.int .i64 Z)).setCell ⟨w.heap.size, 2, none⟩ (.int .i64 x)) (w.heap.size + 1 + 1 + 1) 40 [.int .i64 P1, .int .i64 Q1, .int .i64 R1, .int .i64 S1]) := ((G3.out.far (by omega) 0 _).far (by omega) 2 _)
        replace HB := Lib.hid ((HB.out.setCell (p := ⟨w.heap.size, 0, none⟩) (show w.heap.size ≤ w.heap.size by omega) (.int .i64 Z)).setCell (p := ⟨w.heap.size, 2, none⟩) (show w.heap.size ≤ w.heap.size by omega) (.int .i64 x))
        clear c0 fc0 c1 fc1 c2 fc2 d0 fd0 d1 fd1 d2 fd2 d3 fd3
        generalize ((W5.setCell ⟨w.heap.size, 0, none⟩ (.int .i64 Z)).setCell ⟨w.heap.size, 2, none⟩ (.int .i64 x)) = V2 at *
        have d0 : V2.cell? ⟨w.heap.size + 1 + 1 + 1, 0, none⟩ = some (.int .i64 P1) := G3.out.cell 0
        have fd0 : V2.frozen? ⟨w.heap.size + 1 + 1 + 1, 0, none⟩ = false := G3.out.free 0
        have d1 : V2.cell? ⟨w.heap.size + 1 + 1 + 1, 1, none⟩ = some (.int .i64 Q1) := G3.out.cell 1
        have fd1 : V2.frozen? ⟨w.heap.size + 1 + 1 + 1, 1, none⟩ = false := G3.out.free 1
        have d2 : V2.cell? ⟨w.heap.size + 1 + 1 + 1, 2, none⟩ = some (.int .i64 R1) := G3.out.cell 2
        have fd2 : V2.frozen? ⟨w.heap.size + 1 + 1 + 1, 2, none⟩ = false := G3.out.free 2
        have d3 : V2.cell? ⟨w.heap.size + 1 + 1 + 1, 3, none⟩ = some (.int .i64 S1) := G3.out.cell 3
        have fd3 : V2.frozen? ⟨w.heap.size + 1 + 1 + 1, 3, none⟩ = false := G3.out.free 3
        go_wp2
        replace G0 : Hid (Has ((((V2.setCell ⟨w.heap.size + 1 + 1 + 1, 0, none⟩ (.int .i64 Q1)).setCell ⟨w.heap.size + 1 + 1 + 1, 1, none⟩ (.int .i64 P1)).setCell ⟨w.heap.size + 1 + 1 + 1, 2, none⟩ (.int .i64 S1)).setCell ⟨w.heap.size + 1 + 1 + 1, 3, none⟩ (.int .i64 R1)) (w.heap.size) 23 [.int .i64 Z, .int .i64 Y, .int .i64 x]) := ((((G0.out.far (by omega) 0 _).far (by omega) 1 _).far (by omega) 2 _).far (by omega) 3 _)
        replace G1 : Hid (Has ((((V2.setCell ⟨w.heap.size + 1 + 1 + 1, 0, none⟩ (.int .i64 Q1)).setCell ⟨w.heap.size + 1 + 1 + 1, 1, none⟩ (.int .i64 P1)).setCell ⟨w.heap.size + 1 + 1 + 1, 2, none⟩ (.int .i64 S1)).setCell ⟨w.heap.size + 1 + 1 + 1, 3, none⟩ (.int .i64 R1)) (w.heap.size + 1) 23 [.int .i64 0, .int .i64 0, .int .i64 0]) := ((((G1.out.far (by omega) 0 _).far (by omega) 1 _).far (by omega) 2 _).far (by omega) 3 _)
        replace G2 : Hid (Has ((((V2.setCell ⟨w.heap.size + 1 + 1 + 1, 0, none⟩ (.int .i64 Q1)).setCell ⟨w.heap.size + 1 + 1 + 1, 1, none⟩ (.int .i64 P1)).setCell ⟨w.heap.size + 1 + 1 + 1, 2, none⟩ (.int .i64 S1)).setCell ⟨w.heap.size + 1 + 1 + 1, 3, none⟩ (.int .i64 R1)) (w.heap.size + 1 + 1) 40 [.int .i64 0, .int .i64 0, .int .i64 0, .int .i64 0]) := ((((G2.out.far (by omega) 0 _).far (by omega) 1 _).far (by omega) 2 _).far (by omega) 3 _)
        replace G3 : Hid (Has ((((V2.setCell ⟨w.heap.size + 1 + 1 + 1, 0, none⟩ (.int .i64 Q1)).setCell ⟨w.heap.size + 1 + 1 + 1, 1, none⟩ (.int .i64 P1)).setCell ⟨w.heap.size + 1 + 1 + 1, 2, none⟩ (.int .i64 S1)).setCell ⟨w.heap.size + 1 + 1 + 1, 3, none⟩ (.int .i64 R1)) (w.heap.size + 1 + 1 + 1) 40 [.int .i64 Q1, .int .i64 P1, .int .i64 S1, .int .i64 R1]) := ((((G3.out.set 0 (.int .i64 Q1)).set 1 (.int .i64 P1)).set 2 (.int .i64 S1)).set 3 (.int .i64 R1))
        replace HB := Lib.hid ((((HB.out.setCell (p := ⟨w.heap.size + 1 + 1 + 1, 0, none⟩) (show w.heap.size ≤ w.heap.size + 1 + 1 + 1 by omega) (.int .i64 Q1)).setCell (p := ⟨w.heap.size + 1 + 1 + 1, 1, none⟩) (show w.heap.size ≤ w.heap.size + 1 + 1 + 1 by omega) (.int .i64 P1)).setCell (p := ⟨w.heap.size + 1 + 1 + 1, 2, none⟩) (show w.heap.size ≤ w.heap.size + 1 + 1 + 1 by omega) (.int .i64 S1)).setCell (p := ⟨w.heap.size + 1 + 1 + 1, 3, none⟩) (show w.heap.size ≤ w.heap.size + 1 + 1 + 1 by omega) (.int .i64 R1))
        clear d0 fd0 d1 fd1 d2 fd2 d3 fd3
        have hm : natAt ((((V2.setCell ⟨w.heap.size + 1 + 1 + 1, 0, none⟩ (.int .i64 Q1)).setCell ⟨w.heap.size + 1 + 1 + 1, 1, none⟩ (.int .i64 P1)).setCell ⟨w.heap.size + 1 + 1 + 1, 2, none⟩ (.int .i64 S1)).setCell ⟨w.heap.size + 1 + 1 + 1, 3, none⟩ (.int .i64 R1)) w.heap.size 0 = Z.toNat := natAt_eq (G0.out.cell 0)
        refine ⟨⟨Z, Y, x, Q1, P1, S1, R1, G0, G1, G2, G3, HB, Lib.hid ST1.out.swp⟩, ?_⟩
        show natAt _ _ _ < natAt _ _ _
        rw [hm, HM.out]
        omega
end Go.Proofs.Ytmghpaibdgkbfaa
/-
  Contracts of chapter 6: the matrices that keep a reduced lattice.
-/
namespace Go.Proofs.Ytmghpaibdgkbfaa
open Go.RowKit
def mC (m : La.Mat) : List Value := [.int .i64 m.a, .int .i64 m.b, .int .i64 m.c, .int .i64 m.d]
def msC (l : List La.Mat) : List Value := l.flatMap mC
theorem msC_app (l r : List La.Mat) : msC (l ++ r) = msC l ++ msC r := List.flatMap_append
theorem msC_one (m : La.Mat) : msC [m] = mC m := by simp [msC]
theorem msC_len : ∀ l : List La.Mat, (msC l).length = l.length * 4
  | [] => rfl
  | m :: l => by
    show (mC m ++ msC l).length = _
    rw [List.length_append, msC_len l, List.length_cons]
    show 4 + _ = _
    omega
def cand (i : Nat) : La.Mat := ⟨(i : Int) % 3 - 1, (i : Int) / 3 % 3 - 1, (i : Int) / 9 % 3 - 1, (i : Int) / 27 - 1⟩
def grp (l : La.Lat) (k : Nat) : List La.Mat := ((List.range k).map cand).filter (fun m => decide (La.lead l m = l))
theorem grp_yes {l : La.Lat} {k : Nat} (h : La.lead l (cand k) = l) : grp l (k + 1) = grp l k ++ [cand k] := by
  unfold grp
  rw [List.range_succ, List.map_append, List.filter_append]
  simp [h]
theorem grp_no {l : La.Lat} {k : Nat} (h : La.lead l (cand k) ≠ l) : grp l (k + 1) = grp l k := by
  unfold grp
  rw [List.range_succ, List.map_append, List.filter_append]
  simp [h]
theorem grp_len (l : La.Lat) (k : Nat) : (grp l k).length ≤ k := by
  unfold grp
  exact Nat.le_trans (List.length_filter_le ..) (by simp)
theorem lead_eq (a b c p q r s : Int) : La.lead ⟨a, b, c⟩ ⟨p, q, r, s⟩ = ⟨prodL a b c p r p r, prodL a b c p r q s, prodL a b c q s q s⟩ := by
  simp only [La.lead, La.prod, prodL_ref]
def sameL (x y z u v t : Int) : Bool := x == u && (y == v && z == t)
theorem sameL_iff (x y z u v t : Int) : sameL x y z u v t = true ↔ (⟨x, y, z⟩ : La.Lat) = ⟨u, v, t⟩ := by unfold sameL; simp
theorem eqLat (x y z u v t : Int) (w : World) : (Op.equalIn 10000 23 (vL x y z) (vL u v t)).run Try.prog w = .ok (sameL x y z u v t) w := by
  have u3 := Try.underlying2
  have a3 := Try.isAgg2
  have z3 := Try.sizeOf2
  have hS : Try.prog.underlying 23 = some (.struct (Try.prog.fieldsOf 23)) := by kernel_rfl
  have hp : Try.prog.stoodInHeld 23 = false := by kernel_rfl
  rw [show (10000 : Nat) = 9999 + 1 from rfl, run_equalIn_agg w 9999 23 _ _ hS hp]
  simp only [Program.fieldsOf, Try.underlying23]
  unfold sameL
  by_cases h1 : x = u
  · by_cases h2 : y = v
    · by_cases h3 : z = t
      · subst h1 h2 h3
        go_simp
      · subst h1 h2
        have : (z == t) = false := beq_eq_false_iff_ne.2 h3
        go_simp
    · subst h1
      have : (y == v) = false := beq_eq_false_iff_ne.2 h2
      go_simp
  · have : (x == u) = false := beq_eq_false_iff_ne.2 h1
    go_simp
theorem infoMat : (Try.prog.info? 40).map (fun i => (i.zero, i.size, i.bytes)) = some (some (.agg #[.int .i64 0, .int .i64 0, .int .i64 0, .int .i64 0]), 4, 32) := by kernel_rfl
theorem news_mat (w : World) (m : La.Mat) (t : TypeId) : ∀ j u, (mC m)[j]? = some u → (w.alloc (.cells #[.int .i64 m.a, .int .i64 m.b, .int .i64 m.c, .int .i64 m.d] t)).cell? ⟨w.heap.size, j, none⟩ = some u := fun j u hu => by
  rw [World.cell?_alloc_new]
  simpa [mC] using hu
theorem one_mat (m : La.Mat) : ∀ u ∈ mC m, u.oneCell' = true := fun u hu => by
  simp [mC] at hu
  rcases hu with rfl | rfl | rfl | rfl <;> rfl
set_option maxRecDepth 100000 in
set_option maxHeartbeats 2000000 in
theorem groupC (a b c : Int) (w : World) (ha : In6 10000 a) (hb : In6 10000 b) (hc : In6 10000 c) : Calls Try.prog 64 #[vL a b c] w fun e w' => (∃ (A : Option Addr) (cp : Nat), e = .returned (.slice A (grp ⟨a, b, c⟩ 81).length cp) ∧ w'.ownsRow w.heap.size 40 4 (.slice A (grp ⟨a, b, c⟩ 81).length cp) (grp ⟨a, b, c⟩ 81).length (msC (grp ⟨a, b, c⟩ 81))) ∧ Below w.heap.size w w' := by
  have CL := Lib.hid (fun W p q r s (h1 : In6 2000000 p) (h2 : In6 2000000 q) (h3 : In6 2000000 r) (h4 : In6 2000000 s) => leadC a b c p q r s W ha hb hc h1 h2 h3 h4)
  have G0 : Hid (Has (w.alloc (.cells #[.int .i64 a, .int .i64 b, .int .i64 c] 23)) w.heap.size 23 [.int .i64 a, .int .i64 b, .int .i64 c]) := Has.new rfl
  have B0 : Hid (Below w.heap.size w (w.alloc (.cells #[.int .i64 a, .int .i64 b, .int .i64 c] 23))) := (Below.refl _ _).alloc (Nat.le_refl _) _
  have hq := fun x y z u v t W => eqLat x y z u v t W
  clear ha hb hc
  go_enter Try.func64, Try.ntmps64
  go_wp2
  go_loopw [3, 6] (fun v i wr => ∃ (k m : Nat) (A : Option Addr) (cp : Nat), k ≤ 81 ∧ i = .int .i64 (k : Int) ∧ v = .slice A m cp ∧ m ≤ k ∧ Hid (m = (grp ⟨a, b, c⟩ k).length) ∧ Hid (wr.ownsRow w.heap.size 40 4 v m (msC (grp ⟨a, b, c⟩ k))) ∧ Hid (Has wr w.heap.size 23 [.int .i64 a, .int .i64 b, .int .i64 c]) ∧ Hid (Below w.heap.size w wr)) (fun _ i _ => 81 - (intOf i).toNat)
  case atStart => exact ⟨0, 0, none, 0, by omega, rfl, rfl, by omega, Lib.hid rfl, Lib.hid (World.ownsRow_nil _ _ _ _), G0, B0⟩
  case round =>
    clear G0 B0
    obtain ⟨k, m, A, cp, hk, rfl, rfl, hmk, HL, HO, G0, HB⟩ := hrel
    obtain ⟨wo, rfl⟩ : ∃ wo : World, wo = wr := ⟨_, rfl⟩
    by_cases hlt : k < 81
    · have jk : (k : Int) < 81 := by omega
      have k0 : (0 : Int) ≤ (k : Int) := by omega
      have ik : IntKind.i64.wrap ((k : Int) + 1) = (k : Int) + 1 := IntWalk.i64_in _ (by omega)
      have i1 : IntKind.i64.wrap ((k : Int) % 3 - 1) = (k : Int) % 3 - 1 := IntWalk.i64_in _ (by omega)
      have i2 : IntKind.i64.wrap ((k : Int) / 3 % 3 - 1) = (k : Int) / 3 % 3 - 1 := IntWalk.i64_in _ (by omega)
      have i3 : IntKind.i64.wrap ((k : Int) / 9 % 3 - 1) = (k : Int) / 9 % 3 - 1 := IntWalk.i64_in _ (by omega)
      have i4 : IntKind.i64.wrap ((k : Int) / 27 - 1) = (k : Int) / 27 - 1 := IntWalk.i64_in _ (by omega)
      have b1 : In6 2000000 ((k : Int) % 3 - 1) := ⟨by omega, by omega⟩
      have b2 : In6 2000000 ((k : Int) / 3 % 3 - 1) := ⟨by omega, by omega⟩
      have b3 : In6 2000000 ((k : Int) / 9 % 3 - 1) := ⟨by omega, by omega⟩
      have b4 : In6 2000000 ((k : Int) / 27 - 1) := ⟨by omega, by omega⟩
      have CL2 := Lib.hid (fun W => CL.out W _ _ _ _ b1 b2 b3 b4)
      clear b1 b2 b3 b4
      go_upto_region 6 with (fail)
      have HCa : Hid (cand k = ⟨(k : Int) % 3 - 1, (k : Int) / 3 % 3 - 1, (k : Int) / 9 % 3 - 1, (k : Int) / 27 - 1⟩) := rfl
      clear i1 i2 i3 i4 CL
      generalize (k : Int) % 3 - 1 = p, (k : Int) / 3 % 3 - 1 = q, (k : Int) / 9 % 3 - 1 = r, (k : Int) / 27 - 1 = s at *
      have D1 := Lib.hid ((Below.refl wo.heap.size wo).alloc (Nat.le_refl _) (.cells #[.int .i64 p, .int .i64 q, .int .i64 r, .int .i64 s] 40))
      have GM : Hid (Has (wo.alloc (.cells #[.int .i64 p, .int .i64 q, .int .i64 r, .int .i64 s] 40)) wo.heap.size 40 [.int .i64 p, .int .i64 q, .int .i64 r, .int .i64 s]) := Has.new rfl
      replace G0 := Lib.hid (G0.out.below D1.out G0.out.lt)
      replace HO := Lib.hid (own_below HO.out D1.out)
      replace HB := Lib.hid (bvia HB.out D1.out)
      clear D1
      generalize wo.heap.size = g at *
      generalize wo.alloc (.cells #[.int .i64 p, .int .i64 q, .int .i64 r, .int .i64 s] 40) = W2 at *
      have x0 : W2.cell? ⟨w.heap.size, 0, none⟩ = some (.int .i64 a) := G0.out.cell 0
      have x1 : W2.cell? ⟨w.heap.size, 1, none⟩ = some (.int .i64 b) := G0.out.cell 1
      have x2 : W2.cell? ⟨w.heap.size, 2, none⟩ = some (.int .i64 c) := G0.out.cell 2
      have y0 : W2.cell? ⟨g, 0, none⟩ = some (.int .i64 p) := GM.out.cell 0
      have y1 : W2.cell? ⟨g, 1, none⟩ = some (.int .i64 q) := GM.out.cell 1
      have y2 : W2.cell? ⟨g, 2, none⟩ = some (.int .i64 r) := GM.out.cell 2
      have y3 : W2.cell? ⟨g, 3, none⟩ = some (.int .i64 s) := GM.out.cell 3
      have q0 := G0.out.lt
      have q1 := GM.out.lt
      have hxc := fun (x : Ext W2) => x.cell
      have HLe : Hid (La.lead ⟨a, b, c⟩ (cand k) = ⟨prodL a b c p r p r, prodL a b c p r q s, prodL a b c q s q s⟩) := by show _ = _; rw [HCa.out]; exact lead_eq a b c p q r s
      generalize prodL a b c p r p r = X, prodL a b c p r q s = Y, prodL a b c q s q s = Z at *
      by_cases heq : La.lead ⟨a, b, c⟩ (cand k) = ⟨a, b, c⟩
      · have hs : sameL X Y Z a b c = true := (sameL_iff ..).2 (HLe.out.symm.trans heq)
        have HG := Lib.hid (grp_yes heq)
        clear heq
        refine wp_region_ext (by kernel_rfl) (by kernel_rfl) ?_
        repeat (go_big_quiet_step ((go_at_call 73; exact ext_call (CL2.out _))))
        refine wpQuiet_nil ?_
        intro w3 hw'
        have hb3 := ext_below hw'
        clear hw' hxc
        have O3 := Lib.hid (own_below HO.out hb3)
        have G3 := Lib.hid (G0.out.below hb3 G0.out.lt)
        have y0 : w3.cell? ⟨g, 0, none⟩ = some (.int .i64 p) := (GM.out.below hb3 q1).cell 0
        have y1 : w3.cell? ⟨g, 1, none⟩ = some (.int .i64 q) := (GM.out.below hb3 q1).cell 1
        have y2 : w3.cell? ⟨g, 2, none⟩ = some (.int .i64 r) := (GM.out.below hb3 q1).cell 2
        have y3 : w3.cell? ⟨g, 3, none⟩ = some (.int .i64 s) := (GM.out.below hb3 q1).cell 3
        have B3 := Lib.hid (bvia HB.out hb3)
        clear hb3 HB G0 HO x0 x1 x2
        go_wp2_with (at_builtin; refine wpList_app rfl (.tmp 29) (.tmp 31) _ rfl w.heap.size 40 (.agg #[.int .i64 0, .int .i64 0, .int .i64 0, .int .i64 0]) 4 32 Try.underlying51 infoMat rfl (by omega) (by omega) (.slice A m cp) _ _ rfl (O3.out.alloc _) w3.heap.size (mC ⟨p, q, r, s⟩) rfl rfl (news_mat _ ⟨p, q, r, s⟩ _) (one_mat _) (by omega) (by have := B3.out.size; simp; omega) ?_; intro g1 cap1 w4 hg1 hown1 hgrow1 hor1)
        have hsz := B3.out.size
        have hne : (Value.slice A m cp).ownBlock ≠ some w.heap.size := G3.out.ne_own O3.out (by decide)
        have G4 := Lib.hid ((G3.out.alloc (.cells #[.int .i64 p, .int .i64 q, .int .i64 r, .int .i64 s] 40)).same (hgrow1.block _ (by have := G3.out.lt; simp; omega) (fun e => hne e.symm)))
        have B4 := Lib.hid ((B3.out.alloc hsz (.cells #[.int .i64 p, .int .i64 q, .int .i64 r, .int .i64 s] 40)).grown hgrow1 (by simp; omega) (fun k hk => (O3.out.lt k hk).1))
        have O4 : Hid (w4.ownsRow w.heap.size 40 4 (.slice (some ⟨g1, 0, none⟩) (m + 1) cap1) (m + 1) (msC (grp ⟨a, b, c⟩ (k + 1)))) := by
          show World.ownsRow _ _ _ _ _ _ _
          rw [HG.out, msC_app, msC_one, HCa.out]
          exact hown1
        refine ⟨⟨k + 1, m + 1, some ⟨g1, 0, none⟩, cap1, by omega, by rw [Int.natCast_add]; rfl, rfl, by omega, ?_, O4, G4, B4⟩, ?_⟩
        · show _ = _
          rw [HG.out, List.length_append, ← HL.out]; rfl
        · first | (simp [intOf]; done) | (simp [intOf]; omega)
      · have hs : sameL X Y Z a b c = false := by
          cases h : sameL X Y Z a b c with
          | false => rfl
          | true => exact absurd (HLe.out.trans ((sameL_iff ..).1 h)) heq
        have HG := Lib.hid (grp_no heq)
        clear heq
        refine wp_region_ext (by kernel_rfl) (by kernel_rfl) ?_
        repeat (go_big_quiet_step ((go_at_call 73; exact ext_call (CL2.out _))))
        refine wpQuiet_nil ?_
        intro w3 hw'
        have hb3 := ext_below hw'
        clear hw' hxc
        have O3 := Lib.hid (own_below HO.out hb3)
        have G3 := Lib.hid (G0.out.below hb3 G0.out.lt)
        have B3 := Lib.hid (bvia HB.out hb3)
        clear hb3 HB G0 HO x0 x1 x2
        go_wp2
        refine ⟨⟨k + 1, m, A, cp, by omega, by rw [Int.natCast_add]; rfl, rfl, by omega, ?_, ?_, G3, B3⟩, ?_⟩
        · show _ = _
          rw [HG.out]; exact HL.out
        · show World.ownsRow _ _ _ _ _ _ _
          rw [HG.out]; exact O3.out
        · first | (simp [intOf]; done) | (simp [intOf]; omega)
    · obtain rfl : k = 81 := by omega
      go_wp2
      go_ret
      have hL := HL.out
      refine ⟨⟨A, cp, ?_, ?_⟩, HB.out⟩
      · rw [← hL]; rfl
      · rw [← hL]; exact HO.out
end Go.Proofs.Ytmghpaibdgkbfaa
