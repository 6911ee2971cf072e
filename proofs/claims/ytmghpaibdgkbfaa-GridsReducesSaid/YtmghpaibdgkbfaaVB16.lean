/-
  The law GridsKeep.
-/
import Derived.Test.YtmghpaibdgkbfaaVB4
import Derived.Test.YtmghpaibdgkbfaaVB12
import Derived.Test.YtmghpaibdgkbfaaVB13
import Derived.Test.YtmghpaibdgkbfaaVB15
import Derived.Deep.CutRange
namespace Go.Proofs.Ytmghpaibdgkbfaa
open Go.RowKit
theorem RdM4.get {w : World} {B b o k : Nat} {ms : List La.Mat} {m : La.Mat} (h : RdM4 w B (some ⟨b, o, none⟩) ms) (hk : ms[k]? = some m) : b < B ∧ w.cell? ⟨b, o + k * 4, none⟩ = some (.int .i64 m.a) ∧ w.cell? ⟨b, o + k * 4 + 1, none⟩ = some (.int .i64 m.b) ∧ w.cell? ⟨b, o + k * 4 + 2, none⟩ = some (.int .i64 m.c) ∧ w.cell? ⟨b, o + k * 4 + 3, none⟩ = some (.int .i64 m.d) := by
  obtain ⟨b', o', h1, h2, h3⟩ := h k m hk
  injection h1 with h1
  injection h1 with e1 e2
  subst e1 e2
  exact ⟨h2, h3⟩
theorem RdM4.some_of {w : World} {B : Nat} {A : Option Addr} {ms : List La.Mat} (h : RdM4 w B A ms) (hn : 0 < ms.length) : ∃ b o, A = some ⟨b, o, none⟩ := by
  obtain ⟨m, hm⟩ := get_of_lt (l := ms) (k := 0) hn
  obtain ⟨b, o, h1, _⟩ := h 0 m hm
  exact ⟨b, o, h1⟩
/-- what the calls of a round answer at a matrix that keeps the lattice -/
structure GC (a b c p1 p2 q1 q2 r1 r2 D S ga gb gc gd : Int) : Prop where
  mat : ∀ W : World, Calls Try.prog 26 #[vM ga gb gc gd] W fun e w' => e = .returned (.bool true) ∧ Below W.heap.size W w'
  ap1 : ∀ W : World, Calls Try.prog 35 #[vV ga gb gc gd 0 0, vP p1 p2] W fun e w' => e = .returned (.tuple #[vP (ga * p1 + gb * p2) (gc * p1 + gd * p2), .int .i64 0]) ∧ Below W.heap.size W w'
  ap2 : ∀ W : World, Calls Try.prog 35 #[vV ga gb gc gd 0 0, vP q1 q2] W fun e w' => e = .returned (.tuple #[vP (ga * q1 + gb * q2) (gc * q1 + gd * q2), .int .i64 0]) ∧ Below W.heap.size W w'
  ap3 : ∀ W : World, Calls Try.prog 35 #[vV ga gb gc gd 0 0, vP r1 r2] W fun e w' => e = .returned (.tuple #[vP (ga * r1 + gb * r2) (gc * r1 + gd * r2), .int .i64 0]) ∧ Below W.heap.size W w'
  sq : ∀ W : World, Calls Try.prog 13 #[vL a b c, vP (ga * p1 + gb * p2) (gc * p1 + gd * p2), vP (ga * q1 + gb * q2) (gc * q1 + gd * q2)] W fun e w' => e = .returned (.tuple #[.int .i64 D, .int .i64 0]) ∧ Below W.heap.size W w'
  sd : ∀ W : World, Calls Try.prog 20 #[vP (ga * p1 + gb * p2) (gc * p1 + gd * p2), vP (ga * q1 + gb * q2) (gc * q1 + gd * q2), vP (ga * r1 + gb * r2) (gc * r1 + gd * r2)] W fun e w' => e = .returned (.tuple #[.int .i64 ((ga * gd - gb * gc) * S), .int .i64 0]) ∧ Below W.heap.size W w'
  iv : ∀ W : World, Calls Try.prog 39 #[vV ga gb gc gd 0 0] W fun e w' => e = .returned (.tuple #[vV ((ga * gd - gb * gc) * gd) (-(ga * gd - gb * gc) * gb) (-(ga * gd - gb * gc) * gc) ((ga * gd - gb * gc) * ga) 0 0, .int .i64 0]) ∧ Below W.heap.size W w'
theorem gc_of {a b c p1 p2 q1 q2 r1 r2 ga gb gc gd : Int} (h : okL a b c = true) (K : KeepG ⟨a, b, c⟩ ⟨ga, gb, gc, gd⟩) (x1 : In6 10 p1) (x2 : In6 10 p2) (x3 : In6 10 q1) (x4 : In6 10 q2) (x5 : In6 10 r1) (x6 : In6 10 r2) :
    GC a b c p1 p2 q1 q2 r1 r2 (La.prod ⟨a, b, c⟩ (q1 - p1) (q2 - p2) (q1 - p1) (q2 - p2)) (sgn ((q1 - p1) * (r2 - p2) - (q2 - p2) * (r1 - p1))) ga gb gc gd := by
  obtain ⟨e, u, ha, hb, hc, hd⟩ := K
  simp only at ha hb hc hd
  have kp := okP_small (im_in ha hb x1 x2) (im_in hc hd x1 x2)
  have kq := okP_small (im_in ha hb x3 x4) (im_in hc hd x3 x4)
  have kr := okP_small (im_in ha hb x5 x6) (im_in hc hd x5 x6)
  have u : ga * gd - gb * gc = 1 ∨ ga * gd - gb * gc = -1 := u
  refine ⟨fun W => ?_, fun W => ?_, fun W => ?_, fun W => ?_, fun W => ?_, fun W => ?_, fun W => ?_⟩
  · have := rmatrixC ga gb gc gd W; rw [(okM_iff ..).2 ⟨ha, hb, hc, hd⟩] at this; exact this
  · have := applyC ga gb gc gd 0 0 p1 p2 W; rw [apK ha hb hc hd x1 x2] at this; exact this
  · have := applyC ga gb gc gd 0 0 q1 q2 W; rw [apK ha hb hc hd x3 x4] at this; exact this
  · have := applyC ga gb gc gd 0 0 r1 r2 W; rw [apK ha hb hc hd x5 x6] at this; exact this
  · have := squareC a b c (ga * p1 + gb * p2) (gc * p1 + gd * p2) (ga * q1 + gb * q2) (gc * q1 + gd * q2) W
    rw [dotK h kp kq, sq_keep (g := ⟨ga, gb, gc, gd⟩) e p1 p2 q1 q2] at this; exact this
  · have := sideC (ga * p1 + gb * p2) (gc * p1 + gd * p2) (ga * q1 + gb * q2) (gc * q1 + gd * q2) (ga * r1 + gb * r2) (gc * r1 + gd * r2) W
    rw [sideK kp kq kr, side_keep ⟨ga, gb, gc, gd⟩ p1 p2 q1 q2 r1 r2, show La.det ⟨ga, gb, gc, gd⟩ = ga * gd - gb * gc from rfl, sgn_unit u] at this; exact this
  · have := invertC ga gb gc gd 0 0 W; rw [invK ha hb hc hd u] at this; exact this
theorem sgn_one_in (z : Int) : -1 ≤ sgn z ∧ sgn z ≤ 1 := by unfold sgn; split <;> (try split) <;> omega
set_option maxRecDepth 100000 in
set_option maxHeartbeats 16000000 in
theorem keepP (a b c ox oy px py qx qy rx ry m1 m2 m3 m4 : Int) (w : World) : Calls Try.prog 11 #[vL a b c, vF ox oy px py qx qy rx ry, vM m1 m2 m3 m4] w fun e w' => e = .returned (.bool true) ∧ Below w.heap.size w w' := by
  have CC := Lib.hid (fun W => checkC a b c W)
  cases h : okL a b c with
  | false =>
    rw [show errL a b c = 2 from if_neg (by rw [h]; decide)] at CC
    have CG := Lib.hid (fun W => groupNC a b c W h)
    clear h
    have G0 : Hid (Has (boxW w [([.int .i64 a, .int .i64 b, .int .i64 c], 23), ([.int .i64 ox, .int .i64 oy, .int .i64 px, .int .i64 py, .int .i64 qx, .int .i64 qy, .int .i64 rx, .int .i64 ry], 27), ([.int .i64 m1, .int .i64 m2, .int .i64 m3, .int .i64 m4], 40)]) (w.heap.size) 23 [.int .i64 a, .int .i64 b, .int .i64 c]) := box_has [([.int .i64 a, .int .i64 b, .int .i64 c], 23), ([.int .i64 ox, .int .i64 oy, .int .i64 px, .int .i64 py, .int .i64 qx, .int .i64 qy, .int .i64 rx, .int .i64 ry], 27), ([.int .i64 m1, .int .i64 m2, .int .i64 m3, .int .i64 m4], 40)] (w := w) (Below.refl _ _) (i := 0) rfl
    have G1 : Hid (Has (boxW w [([.int .i64 a, .int .i64 b, .int .i64 c], 23), ([.int .i64 ox, .int .i64 oy, .int .i64 px, .int .i64 py, .int .i64 qx, .int .i64 qy, .int .i64 rx, .int .i64 ry], 27), ([.int .i64 m1, .int .i64 m2, .int .i64 m3, .int .i64 m4], 40)]) (w.heap.size + 1) 27 [.int .i64 ox, .int .i64 oy, .int .i64 px, .int .i64 py, .int .i64 qx, .int .i64 qy, .int .i64 rx, .int .i64 ry]) := box_has [([.int .i64 a, .int .i64 b, .int .i64 c], 23), ([.int .i64 ox, .int .i64 oy, .int .i64 px, .int .i64 py, .int .i64 qx, .int .i64 qy, .int .i64 rx, .int .i64 ry], 27), ([.int .i64 m1, .int .i64 m2, .int .i64 m3, .int .i64 m4], 40)] (w := w) (Below.refl _ _) (i := 1) rfl
    have G2 : Hid (Has (boxW w [([.int .i64 a, .int .i64 b, .int .i64 c], 23), ([.int .i64 ox, .int .i64 oy, .int .i64 px, .int .i64 py, .int .i64 qx, .int .i64 qy, .int .i64 rx, .int .i64 ry], 27), ([.int .i64 m1, .int .i64 m2, .int .i64 m3, .int .i64 m4], 40)]) (w.heap.size + 1 + 1) 40 [.int .i64 m1, .int .i64 m2, .int .i64 m3, .int .i64 m4]) := box_has [([.int .i64 a, .int .i64 b, .int .i64 c], 23), ([.int .i64 ox, .int .i64 oy, .int .i64 px, .int .i64 py, .int .i64 qx, .int .i64 qy, .int .i64 rx, .int .i64 ry], 27), ([.int .i64 m1, .int .i64 m2, .int .i64 m3, .int .i64 m4], 40)] (w := w) (Below.refl _ _) (i := 2) rfl
    have B := Lib.hid (boxW_below [([.int .i64 a, .int .i64 b, .int .i64 c], 23), ([.int .i64 ox, .int .i64 oy, .int .i64 px, .int .i64 py, .int .i64 qx, .int .i64 qy, .int .i64 rx, .int .i64 ry], 27), ([.int .i64 m1, .int .i64 m2, .int .i64 m3, .int .i64 m4], 40)] w)
    obtain ⟨W1, hW1⟩ : ∃ W1, W1 = boxW w [([.int .i64 a, .int .i64 b, .int .i64 c], 23), ([.int .i64 ox, .int .i64 oy, .int .i64 px, .int .i64 py, .int .i64 qx, .int .i64 qy, .int .i64 rx, .int .i64 ry], 27), ([.int .i64 m1, .int .i64 m2, .int .i64 m3, .int .i64 m4], 40)] := ⟨_, rfl⟩
    rw [← hW1] at G0 G1 G2 B
    go_enter Try.func11, Try.ntmps11
    go_upto_region 1 with (fail)
    rw [show ((w.alloc (.cells #[.int .i64 a, .int .i64 b, .int .i64 c] 23)).alloc (.cells #[.int .i64 ox, .int .i64 oy, .int .i64 px, .int .i64 py, .int .i64 qx, .int .i64 qy, .int .i64 rx, .int .i64 ry] 27)).alloc (.cells #[.int .i64 m1, .int .i64 m2, .int .i64 m3, .int .i64 m4] 40) = W1 from hW1.symm]
    clear hW1
    have cG00 : W1.cell? ⟨w.heap.size, 0, none⟩ = some (.int .i64 a) := G0.out.cell 0
    have cG01 : W1.cell? ⟨w.heap.size, 1, none⟩ = some (.int .i64 b) := G0.out.cell 1
    have cG02 : W1.cell? ⟨w.heap.size, 2, none⟩ = some (.int .i64 c) := G0.out.cell 2
    go_wp2_with fail
    refine (CG.out _).mono ?_
    rintro e w1 ⟨rfl, hb1⟩
    clear cG00 cG01 cG02
    replace G0 := Lib.hid (G0.out.below hb1 G0.out.lt)
    replace G1 := Lib.hid (G1.out.below hb1 G1.out.lt)
    replace G2 := Lib.hid (G2.out.below hb1 G2.out.lt)
    replace B := Lib.hid (bvia B.out hb1)
    clear hb1
    have cG00 : w1.cell? ⟨w.heap.size, 0, none⟩ = some (.int .i64 a) := G0.out.cell 0
    have cG01 : w1.cell? ⟨w.heap.size, 1, none⟩ = some (.int .i64 b) := G0.out.cell 1
    have cG02 : w1.cell? ⟨w.heap.size, 2, none⟩ = some (.int .i64 c) := G0.out.cell 2
    go_wp2_with fail
    refine (CC.out _).mono ?_
    rintro e w2 ⟨rfl, hb2⟩
    clear cG00 cG01 cG02
    replace G0 := Lib.hid (G0.out.below hb2 G0.out.lt)
    replace G1 := Lib.hid (G1.out.below hb2 G1.out.lt)
    replace G2 := Lib.hid (G2.out.below hb2 G2.out.lt)
    replace B := Lib.hid (bvia B.out hb2)
    clear hb2
    go_wp2_with fail
    go_wp2_with fail
    refine (awakeC _).mono ?_
    rintro e w3 ⟨rfl, hb3⟩
    replace G0 := Lib.hid (G0.out.below hb3 G0.out.lt)
    replace G1 := Lib.hid (G1.out.below hb3 G1.out.lt)
    replace G2 := Lib.hid (G2.out.below hb3 G2.out.lt)
    replace B := Lib.hid (bvia B.out hb3)
    clear hb3
    go_wp2
    go_ret
    exact ⟨rfl, B.out⟩
  | true =>
    have HV := Lib.hid (okL_val h)
    have CG := Lib.hid (fun W => groupTC a b c W h)
    have N1 := Lib.hid (fun W => nearC px py W)
    have N2 := Lib.hid (fun W => nearC qx qy W)
    have N3 := Lib.hid (fun W => nearC rx ry W)
    have x1 : In6 10 (px.tmod 11) := by have := tmod_in px (show (0 : Int) < 11 by decide); omega
    have x2 : In6 10 (py.tmod 11) := by have := tmod_in py (show (0 : Int) < 11 by decide); omega
    have x3 : In6 10 (qx.tmod 11) := by have := tmod_in qx (show (0 : Int) < 11 by decide); omega
    have x4 : In6 10 (qy.tmod 11) := by have := tmod_in qy (show (0 : Int) < 11 by decide); omega
    have x5 : In6 10 (rx.tmod 11) := by have := tmod_in rx (show (0 : Int) < 11 by decide); omega
    have x6 : In6 10 (ry.tmod 11) := by have := tmod_in ry (show (0 : Int) < 11 by decide); omega
    generalize px.tmod 11 = p1 at *
    generalize py.tmod 11 = p2 at *
    generalize qx.tmod 11 = q1 at *
    generalize qy.tmod 11 = q2 at *
    generalize rx.tmod 11 = r1 at *
    generalize ry.tmod 11 = r2 at *
    have HG : Hid (∀ ga gb gc gd : Int, La.lead ⟨a, b, c⟩ ⟨ga, gb, gc, gd⟩ = ⟨a, b, c⟩ → GC a b c p1 p2 q1 q2 r1 r2 (La.prod ⟨a, b, c⟩ (q1 - p1) (q2 - p2) (q1 - p1) (q2 - p2)) (sgn ((q1 - p1) * (r2 - p2) - (q2 - p2) * (r1 - p1))) ga gb gc gd) := fun ga gb gc gd e => gc_of h (keepG HV.out.1 HV.out.2.1 HV.out.2.2 e) x1 x2 x3 x4 x5 x6
    have s1 : okP p1 p2 = true := okP_small ⟨by omega, by omega⟩ ⟨by omega, by omega⟩
    have s2 : okP q1 q2 = true := okP_small ⟨by omega, by omega⟩ ⟨by omega, by omega⟩
    have s3 : okP r1 r2 = true := okP_small ⟨by omega, by omega⟩ ⟨by omega, by omega⟩
    have CS : Hid (∀ W : World, Calls Try.prog 13 #[vL a b c, vP p1 p2, vP q1 q2] W fun e w' => e = .returned (.tuple #[.int .i64 (La.prod ⟨a, b, c⟩ (q1 - p1) (q2 - p2) (q1 - p1) (q2 - p2)), .int .i64 0]) ∧ Below W.heap.size W w') := fun W => by have := squareC a b c p1 p2 q1 q2 W; rw [dotK h s1 s2] at this; exact this
    have CD : Hid (∀ W : World, Calls Try.prog 20 #[vP p1 p2, vP q1 q2, vP r1 r2] W fun e w' => e = .returned (.tuple #[.int .i64 (sgn ((q1 - p1) * (r2 - p2) - (q2 - p2) * (r1 - p1))), .int .i64 0]) ∧ Below W.heap.size W w') := fun W => by have := sideC p1 p2 q1 q2 r1 r2 W; rw [sideK s1 s2 s3] at this; exact this
    have HS := Lib.hid (sgn_one_in ((q1 - p1) * (r2 - p2) - (q2 - p2) * (r1 - p1)))
    generalize La.prod ⟨a, b, c⟩ (q1 - p1) (q2 - p2) (q1 - p1) (q2 - p2) = D at *
    generalize sgn ((q1 - p1) * (r2 - p2) - (q2 - p2) * (r1 - p1)) = S at *
    have HOK := Lib.hid h
    clear h x1 x2 x3 x4 x5 x6 s1 s2 s3 CC
    have G0 : Hid (Has (boxW w [([.int .i64 a, .int .i64 b, .int .i64 c], 23), ([.int .i64 ox, .int .i64 oy, .int .i64 px, .int .i64 py, .int .i64 qx, .int .i64 qy, .int .i64 rx, .int .i64 ry], 27), ([.int .i64 m1, .int .i64 m2, .int .i64 m3, .int .i64 m4], 40)]) (w.heap.size) 23 [.int .i64 a, .int .i64 b, .int .i64 c]) := box_has [([.int .i64 a, .int .i64 b, .int .i64 c], 23), ([.int .i64 ox, .int .i64 oy, .int .i64 px, .int .i64 py, .int .i64 qx, .int .i64 qy, .int .i64 rx, .int .i64 ry], 27), ([.int .i64 m1, .int .i64 m2, .int .i64 m3, .int .i64 m4], 40)] (w := w) (Below.refl _ _) (i := 0) rfl
    have G1 : Hid (Has (boxW w [([.int .i64 a, .int .i64 b, .int .i64 c], 23), ([.int .i64 ox, .int .i64 oy, .int .i64 px, .int .i64 py, .int .i64 qx, .int .i64 qy, .int .i64 rx, .int .i64 ry], 27), ([.int .i64 m1, .int .i64 m2, .int .i64 m3, .int .i64 m4], 40)]) (w.heap.size + 1) 27 [.int .i64 ox, .int .i64 oy, .int .i64 px, .int .i64 py, .int .i64 qx, .int .i64 qy, .int .i64 rx, .int .i64 ry]) := box_has [([.int .i64 a, .int .i64 b, .int .i64 c], 23), ([.int .i64 ox, .int .i64 oy, .int .i64 px, .int .i64 py, .int .i64 qx, .int .i64 qy, .int .i64 rx, .int .i64 ry], 27), ([.int .i64 m1, .int .i64 m2, .int .i64 m3, .int .i64 m4], 40)] (w := w) (Below.refl _ _) (i := 1) rfl
    have G2 : Hid (Has (boxW w [([.int .i64 a, .int .i64 b, .int .i64 c], 23), ([.int .i64 ox, .int .i64 oy, .int .i64 px, .int .i64 py, .int .i64 qx, .int .i64 qy, .int .i64 rx, .int .i64 ry], 27), ([.int .i64 m1, .int .i64 m2, .int .i64 m3, .int .i64 m4], 40)]) (w.heap.size + 1 + 1) 40 [.int .i64 m1, .int .i64 m2, .int .i64 m3, .int .i64 m4]) := box_has [([.int .i64 a, .int .i64 b, .int .i64 c], 23), ([.int .i64 ox, .int .i64 oy, .int .i64 px, .int .i64 py, .int .i64 qx, .int .i64 qy, .int .i64 rx, .int .i64 ry], 27), ([.int .i64 m1, .int .i64 m2, .int .i64 m3, .int .i64 m4], 40)] (w := w) (Below.refl _ _) (i := 2) rfl
    have B := Lib.hid (boxW_below [([.int .i64 a, .int .i64 b, .int .i64 c], 23), ([.int .i64 ox, .int .i64 oy, .int .i64 px, .int .i64 py, .int .i64 qx, .int .i64 qy, .int .i64 rx, .int .i64 ry], 27), ([.int .i64 m1, .int .i64 m2, .int .i64 m3, .int .i64 m4], 40)] w)
    obtain ⟨W1, hW1⟩ : ∃ W1, W1 = boxW w [([.int .i64 a, .int .i64 b, .int .i64 c], 23), ([.int .i64 ox, .int .i64 oy, .int .i64 px, .int .i64 py, .int .i64 qx, .int .i64 qy, .int .i64 rx, .int .i64 ry], 27), ([.int .i64 m1, .int .i64 m2, .int .i64 m3, .int .i64 m4], 40)] := ⟨_, rfl⟩
    rw [← hW1] at G0 G1 G2 B
    go_enter Try.func11, Try.ntmps11
    go_upto_region 1 with (fail)
    rw [show ((w.alloc (.cells #[.int .i64 a, .int .i64 b, .int .i64 c] 23)).alloc (.cells #[.int .i64 ox, .int .i64 oy, .int .i64 px, .int .i64 py, .int .i64 qx, .int .i64 qy, .int .i64 rx, .int .i64 ry] 27)).alloc (.cells #[.int .i64 m1, .int .i64 m2, .int .i64 m3, .int .i64 m4] 40) = W1 from hW1.symm]
    clear hW1
    have cG00 : W1.cell? ⟨w.heap.size, 0, none⟩ = some (.int .i64 a) := G0.out.cell 0
    have cG01 : W1.cell? ⟨w.heap.size, 1, none⟩ = some (.int .i64 b) := G0.out.cell 1
    have cG02 : W1.cell? ⟨w.heap.size, 2, none⟩ = some (.int .i64 c) := G0.out.cell 2
    go_wp2_with fail
    refine (CG.out _).mono ?_
    rintro e w1 ⟨GQ, hb1⟩
    clear cG00 cG01 cG02
    replace G0 := Lib.hid (G0.out.below hb1 G0.out.lt)
    replace G1 := Lib.hid (G1.out.below hb1 G1.out.lt)
    replace G2 := Lib.hid (G2.out.below hb1 G2.out.lt)
    replace B := Lib.hid (bvia B.out hb1)
    clear hb1
    obtain ⟨l, m, A, cp, ms, ST, RD, HP, _, he, hr⟩ := GQ
    have hlen : ms.length = (grp l 81).length := by rw [HP.length_eq, List.length_map]
    have hcnt := grp_count ST.v.a1 RD
    rw [← hlen] at hcnt
    have HM := Lib.hid (fun x => conj_mem ST RD HP x)
    clear ST RD HP hlen CG
    obtain ⟨n, hn⟩ : ∃ n, n = ms.length := ⟨_, rfl⟩
    rw [← hn] at he hcnt
    have HL : Hid (ms.length = n) := hn.symm
    have hn1 : n ≤ 12 := by omega
    obtain ⟨gb0, go0, rfl⟩ := hr.some_of (by omega)
    have HR := Lib.hid hr
    clear hn hr
    subst he
    go_upto_region 5 with (fail)
    go_cut [67] from 68 (fun zz wx => zz = .bool false ∧ wx = w1)
    case first =>
      rcases hcnt with hc | hc | hc | hc
      · have k1 : ((n : Int) != 2) = false := by rw [hc]; rfl
        go_wp2
        go_meet
        case rel => exact ⟨rfl, rfl⟩
      · have k1 : ((n : Int) != 2) = true := by rw [hc]; rfl
        have k2 : ((n : Int) != 4) = false := by rw [hc]; rfl
        go_wp2
        go_meet
        case rel => exact ⟨rfl, rfl⟩
      · have k1 : ((n : Int) != 2) = true := by rw [hc]; rfl
        have k2 : ((n : Int) != 4) = true := by rw [hc]; rfl
        have k3 : ((n : Int) != 8) = false := by rw [hc]; rfl
        go_wp2
        go_meet
        case rel => exact ⟨rfl, rfl⟩
      · have k1 : ((n : Int) != 2) = true := by rw [hc]; rfl
        have k2 : ((n : Int) != 4) = true := by rw [hc]; rfl
        have k3 : ((n : Int) != 8) = true := by rw [hc]; rfl
        have k4 : ((n : Int) != 12) = false := by rw [hc]; rfl
        go_wp2
        go_meet
        case rel => exact ⟨rfl, rfl⟩
    case rest =>
      obtain ⟨hz, rfl⟩ := hcut
      subst hz
      clear hcnt
      go_upto_region 7 with (fail)
      refine wp_region_news [.q, .q, .q, .q, .q, .q, .q, .q, .q, .mk 0, .mk 1, .mk 2, .st 0, .st 1, .st 2] [⟨10, 70, none, 25, [.int .i64 0, .int .i64 0], [.int .i64 p1, .int .i64 p2], .agg #[.int .i64 p1, .int .i64 p2]⟩, ⟨11, 73, none, 25, [.int .i64 0, .int .i64 0], [.int .i64 q1, .int .i64 q2], .agg #[.int .i64 q1, .int .i64 q2]⟩, ⟨12, 76, none, 25, [.int .i64 0, .int .i64 0], [.int .i64 r1, .int .i64 r2], .agg #[.int .i64 r1, .int .i64 r2]⟩] ?aHA (by kernel_rfl) (by kernel_rfl) (by simp) (by simp) ?hqA ?hvA ?hAA ?heA
      case hqA =>
        intro w5 h5
        have gG1 := G1.out.below h5 G1.out.lt
        have cG10 : w5.cell? ⟨w.heap.size + 1, 0, none⟩ = some (.int .i64 ox) := gG1.cell 0
        have cG11 : w5.cell? ⟨w.heap.size + 1, 1, none⟩ = some (.int .i64 oy) := gG1.cell 1
        have cG12 : w5.cell? ⟨w.heap.size + 1, 2, none⟩ = some (.int .i64 px) := gG1.cell 2
        have cG13 : w5.cell? ⟨w.heap.size + 1, 3, none⟩ = some (.int .i64 py) := gG1.cell 3
        have cG14 : w5.cell? ⟨w.heap.size + 1, 4, none⟩ = some (.int .i64 qx) := gG1.cell 4
        have cG15 : w5.cell? ⟨w.heap.size + 1, 5, none⟩ = some (.int .i64 qy) := gG1.cell 5
        have cG16 : w5.cell? ⟨w.heap.size + 1, 6, none⟩ = some (.int .i64 rx) := gG1.cell 6
        have cG17 : w5.cell? ⟨w.heap.size + 1, 7, none⟩ = some (.int .i64 ry) := gG1.cell 7
        have qG1 : w.heap.size + 1 < w5.heap.size := gG1.lt
        have hxc := fun (x : Ext w5) => x.cell
        clear gG1
        show wpQuiet _ _ _ _ [_, _, _, _, _, _, _, _, _] _
        go_big_quiet_step (fail)
        go_big_quiet_step (fail)
        go_big_quiet_step ((go_at_call 43; exact ext_call (N1.out _)))
        go_big_quiet_step (fail)
        go_big_quiet_step (fail)
        go_big_quiet_step ((go_at_call 43; exact ext_call (N2.out _)))
        go_big_quiet_step (fail)
        go_big_quiet_step (fail)
        go_big_quiet_step ((go_at_call 43; exact ext_call (N3.out _)))
        refine wpQuiet_nil ?_
        rfl
      case hvA => simp
      case hAA =>
        refine ⟨fun x hx => ?_, fun x hx => ?_, fun x hx => ?_, fun x hx => ?_, fun x hx => ?_, fun x hx => ?_, trivial⟩ <;> (obtain rfl := Option.some.inj hx)
        · exact fun b W => by go_simp
        · exact fun b W => by go_simp
        · exact fun b W => by go_simp
        · exact stOk_agg rfl rfl (by kernel_rfl) rfl (by kernel_rfl)
        · exact stOk_agg rfl rfl (by kernel_rfl) rfl (by kernel_rfl)
        · exact stOk_agg rfl rfl (by kernel_rfl) rfl (by kernel_rfl)
      case heA =>
        intro bs w2 hb2 hH _
        have HP0 := (hH 0 _ rfl).1
        have HP1 := (hH 1 _ rfl).1
        have HP2 := (hH 2 _ rfl).1
        obtain ⟨KGP, hKGP⟩ : ∃ K, K = bs 0 := ⟨_, rfl⟩
        obtain ⟨KGQ, hKGQ⟩ : ∃ K, K = bs 1 := ⟨_, rfl⟩
        obtain ⟨KGR, hKGR⟩ : ∃ K, K = bs 2 := ⟨_, rfl⟩
        clear hH
        simp only [putN, Nat.zero_add, ← hKGP, ← hKGQ, ← hKGR, Act.put, List.setIfInBounds_toArray, List.set_cons_zero, List.set_cons_succ] at HP0 HP1 HP2 ⊢
        clear hKGP hKGQ hKGR
        replace G0 := Lib.hid (G0.out.below hb2 G0.out.lt)
        replace G1 := Lib.hid (G1.out.below hb2 G1.out.lt)
        replace G2 := Lib.hid (G2.out.below hb2 G2.out.lt)
        replace HR := Lib.hid (HR.out.up hb2)
        replace B := Lib.hid (bvia B.out hb2)
        clear hb2
        have GP : Hid (Has w2 KGP 25 [.int .i64 p1, .int .i64 p2]) := HP0
        have GQ : Hid (Has w2 KGQ 25 [.int .i64 q1, .int .i64 q2]) := HP1
        have GR : Hid (Has w2 KGR 25 [.int .i64 r1, .int .i64 r2]) := HP2
        clear HP0 HP1 HP2
        clear N1 N2 N3 G1
        have cG00 : w2.cell? ⟨w.heap.size, 0, none⟩ = some (.int .i64 a) := G0.out.cell 0
        have cG01 : w2.cell? ⟨w.heap.size, 1, none⟩ = some (.int .i64 b) := G0.out.cell 1
        have cG02 : w2.cell? ⟨w.heap.size, 2, none⟩ = some (.int .i64 c) := G0.out.cell 2
        have cGP0 : w2.cell? ⟨KGP, 0, none⟩ = some (.int .i64 p1) := GP.out.cell 0
        have cGP1 : w2.cell? ⟨KGP, 1, none⟩ = some (.int .i64 p2) := GP.out.cell 1
        have cGQ0 : w2.cell? ⟨KGQ, 0, none⟩ = some (.int .i64 q1) := GQ.out.cell 0
        have cGQ1 : w2.cell? ⟨KGQ, 1, none⟩ = some (.int .i64 q2) := GQ.out.cell 1
        go_wp2_with fail
        refine (CS.out _).mono ?_
        rintro e w3 ⟨rfl, hb3⟩
        clear cG00 cG01 cG02 cGP0 cGP1 cGQ0 cGQ1
        replace G0 := Lib.hid (G0.out.below hb3 G0.out.lt)
        replace G2 := Lib.hid (G2.out.below hb3 G2.out.lt)
        replace GP := Lib.hid (GP.out.below hb3 GP.out.lt)
        replace GQ := Lib.hid (GQ.out.below hb3 GQ.out.lt)
        replace GR := Lib.hid (GR.out.below hb3 GR.out.lt)
        replace HR := Lib.hid (HR.out.up hb3)
        replace B := Lib.hid (bvia B.out hb3)
        clear hb3
        have cGP0 : w3.cell? ⟨KGP, 0, none⟩ = some (.int .i64 p1) := GP.out.cell 0
        have cGP1 : w3.cell? ⟨KGP, 1, none⟩ = some (.int .i64 p2) := GP.out.cell 1
        have cGQ0 : w3.cell? ⟨KGQ, 0, none⟩ = some (.int .i64 q1) := GQ.out.cell 0
        have cGQ1 : w3.cell? ⟨KGQ, 1, none⟩ = some (.int .i64 q2) := GQ.out.cell 1
        have cGR0 : w3.cell? ⟨KGR, 0, none⟩ = some (.int .i64 r1) := GR.out.cell 0
        have cGR1 : w3.cell? ⟨KGR, 1, none⟩ = some (.int .i64 r2) := GR.out.cell 1
        go_wp2_with fail
        refine (CD.out _).mono ?_
        rintro e w4 ⟨rfl, hb4⟩
        clear cGP0 cGP1 cGQ0 cGQ1 cGR0 cGR1
        replace G0 := Lib.hid (G0.out.below hb4 G0.out.lt)
        replace G2 := Lib.hid (G2.out.below hb4 G2.out.lt)
        replace GP := Lib.hid (GP.out.below hb4 GP.out.lt)
        replace GQ := Lib.hid (GQ.out.below hb4 GQ.out.lt)
        replace GR := Lib.hid (GR.out.below hb4 GR.out.lt)
        replace HR := Lib.hid (HR.out.up hb4)
        replace B := Lib.hid (bvia B.out hb4)
        clear hb4
        clear CS CD
        go_wp2
        go_loopw [17] (fun i wr => ∃ k : Nat, k ≤ n ∧ i = .int .i64 (k : Int) ∧ Hid (RdM4 wr wr.heap.size (some ⟨gb0, go0, none⟩) ms) ∧ Hid (Has wr (w.heap.size) 23 [.int .i64 a, .int .i64 b, .int .i64 c]) ∧ Hid (Has wr (w.heap.size + 1 + 1) 40 [.int .i64 m1, .int .i64 m2, .int .i64 m3, .int .i64 m4]) ∧ Hid (Has wr (KGP) 25 [.int .i64 p1, .int .i64 p2]) ∧ Hid (Has wr (KGQ) 25 [.int .i64 q1, .int .i64 q2]) ∧ Hid (Has wr (KGR) 25 [.int .i64 r1, .int .i64 r2]) ∧ Hid (Below w.heap.size w wr)) (fun i _ => n - (intOf i).toNat)
        case atStart => exact ⟨0, Nat.zero_le _, rfl, HR, G0, G2, GP, GQ, GR, B⟩
        case round =>
          clear HR G0 G2 GP GQ GR B
          obtain ⟨k, hk, rfl, HR, G0, G2, GP, GQ, GR, B⟩ := hrel
          obtain ⟨wo, rfl⟩ : ∃ wo : World, wo = wr := ⟨_, rfl⟩
          by_cases hlt : k < n
          case pos =>
            have jk : (k : Int) < (n : Int) := by omega
            have ik : IntKind.i64.wrap ((k : Int) + 1) = (k : Int) + 1 := IntWalk.i64_in _ (by omega)
            obtain ⟨⟨ga, gb, gc, gd⟩, hx⟩ := get_of_lt (l := ms) (k := k) (by rw [HL.out]; exact hlt)
            have HX := Lib.hid hx
            have hkeep := (HM.out _).1 (List.mem_of_getElem? hx)
            have GCk := Lib.hid (HG.out _ _ _ _ hkeep)
            obtain ⟨_, hu, fa, fb, fc, fd⟩ := keepG HV.out.1 HV.out.2.1 HV.out.2.2 hkeep
            simp only at fa fb fc fd
            have HF : Hid (In6 10000 ga ∧ In6 10000 gb ∧ In6 10000 gc ∧ In6 10000 gd) := ⟨fa, fb, fc, fd⟩
            have hinv : (⟨(ga * gd - gb * gc) * gd, -(ga * gd - gb * gc) * gb, -(ga * gd - gb * gc) * gc, (ga * gd - gb * gc) * ga⟩ : La.Mat) ∈ ms := (HM.out _).2 (La.lead_inv hu hkeep)
            have CI : Hid (∀ W : World, RdM4 W W.heap.size (some ⟨gb0, go0, none⟩) ms → Calls Try.prog 44 #[.slice (some ⟨gb0, go0, none⟩) n cp, vM ((ga * gd - gb * gc) * gd) (-(ga * gd - gb * gc) * gb) (-(ga * gd - gb * gc) * gc) ((ga * gd - gb * gc) * ga)] W fun e w' => e = .returned (.bool true) ∧ Below W.heap.size W w') := fun W hr => by have := inC _ n cp ms ((ga * gd - gb * gc) * gd) (-(ga * gd - gb * gc) * gb) (-(ga * gd - gb * gc) * gc) ((ga * gd - gb * gc) * ga) W hr HL.out (by omega); rw [decide_eq_true hinv] at this; exact this
            have e1 := mb 10000 10000 100000000 fa fd (by decide)
            have e2 := mb 10000 10000 100000000 fb fc (by decide)
            have i2 : IntKind.i64.wrap (ga * gd) = ga * gd := IntWalk.i64_in _ (by omega)
            have i3 : IntKind.i64.wrap (gb * gc) = gb * gc := IntWalk.i64_in _ (by omega)
            have i4 : IntKind.i64.wrap (ga * gd - gb * gc) = ga * gd - gb * gc := IntWalk.i64_in _ (by omega)
            have hs := HS.out
            have i5 : IntKind.i64.wrap ((ga * gd - gb * gc) * S) = (ga * gd - gb * gc) * S := by
              rcases (show ga * gd - gb * gc = 1 ∨ ga * gd - gb * gc = -1 from hu) with e | e <;> rw [e] <;> exact IntWalk.i64_in _ (by omega)
            clear hx hu fa fb fc fd hinv e1 e2 hs hkeep
            obtain ⟨qy, y0, y1, y2, y3⟩ := HR.out.get HX.out
            simp only at y0 y1 y2 y3
            go_wp2_with fail
            refine (GCk.out.mat _).mono ?_
            rintro e w5 ⟨rfl, hb5⟩
            clear qy y0 y1 y2 y3
            replace G0 := Lib.hid (G0.out.below hb5 G0.out.lt)
            replace G2 := Lib.hid (G2.out.below hb5 G2.out.lt)
            replace GP := Lib.hid (GP.out.below hb5 GP.out.lt)
            replace GQ := Lib.hid (GQ.out.below hb5 GQ.out.lt)
            replace GR := Lib.hid (GR.out.below hb5 GR.out.lt)
            replace HR := Lib.hid (HR.out.up hb5)
            replace B := Lib.hid (bvia B.out hb5)
            clear hb5
            go_upto_region 17 with (fail)
            refine wp_region_news [.q, .q, .q, .q, .q, .q, .q, .q, .q, .q, .mk 0, .st 0, .q] [⟨18, 116, none, 25, [.int .i64 0, .int .i64 0], [.int .i64 (ga * p1 + gb * p2), .int .i64 (gc * p1 + gd * p2)], .agg #[.int .i64 (ga * p1 + gb * p2), .int .i64 (gc * p1 + gd * p2)]⟩] ?aHB17 (by kernel_rfl) (by kernel_rfl) (by simp) (by simp) ?hqB17 ?hvB17 ?hAB17 ?heB17
            case hqB17 =>
              intro w5 h5
              have gGP := GP.out.below h5 GP.out.lt
              have hr := HR.out.up h5
              obtain ⟨qy, y0, y1, y2, y3⟩ := hr.get HX.out
              simp only at y0 y1 y2 y3
              have cGP0 : w5.cell? ⟨KGP, 0, none⟩ = some (.int .i64 p1) := gGP.cell 0
              have cGP1 : w5.cell? ⟨KGP, 1, none⟩ = some (.int .i64 p2) := gGP.cell 1
              have qGP : KGP < w5.heap.size := gGP.lt
              have hxc := fun (x : Ext w5) => x.cell
              clear gGP hr
              show wpQuiet _ _ _ _ [_, _, _, _, _, _, _, _, _, _, _] _
              repeat (go_big_quiet_step ((go_at_call 35; exact ext_call (GCk.out.ap1 _))))
              refine wpQuiet_nil ?_
              rfl
            case hvB17 => simp
            case hAB17 =>
              refine ⟨fun x hx => ?_, fun x hx => ?_, trivial⟩ <;> (obtain rfl := Option.some.inj hx)
              · exact fun b W => by go_simp
              · exact stOk_agg rfl rfl (by kernel_rfl) rfl (by kernel_rfl)
            case heB17 =>
              intro bs w6 hb6 hH _
              have HP0 := (hH 0 _ rfl).1
              obtain ⟨KHA, hKHA⟩ : ∃ K, K = bs 0 := ⟨_, rfl⟩
              clear hH
              simp only [putN, ← hKHA, Act.put, List.setIfInBounds_toArray, List.set_cons_zero, List.set_cons_succ] at HP0 ⊢
              clear hKHA
              replace G0 := Lib.hid (G0.out.below hb6 G0.out.lt)
              replace G2 := Lib.hid (G2.out.below hb6 G2.out.lt)
              replace GP := Lib.hid (GP.out.below hb6 GP.out.lt)
              replace GQ := Lib.hid (GQ.out.below hb6 GQ.out.lt)
              replace GR := Lib.hid (GR.out.below hb6 GR.out.lt)
              replace HR := Lib.hid (HR.out.up hb6)
              replace B := Lib.hid (bvia B.out hb6)
              clear hb6
              have HA : Hid (Has w6 KHA 25 [.int .i64 (ga * p1 + gb * p2), .int .i64 (gc * p1 + gd * p2)]) := HP0
              clear HP0
              go_upto_region 18 with (fail)
              refine wp_region_news [.q, .q, .q, .q, .q, .q, .q, .q, .q, .q, .mk 0, .st 0, .q] [⟨20, 126, none, 25, [.int .i64 0, .int .i64 0], [.int .i64 (ga * q1 + gb * q2), .int .i64 (gc * q1 + gd * q2)], .agg #[.int .i64 (ga * q1 + gb * q2), .int .i64 (gc * q1 + gd * q2)]⟩] ?aHB18 (by kernel_rfl) (by kernel_rfl) (by simp) (by simp) ?hqB18 ?hvB18 ?hAB18 ?heB18
              case hqB18 =>
                intro w5 h5
                have gGQ := GQ.out.below h5 GQ.out.lt
                have hr := HR.out.up h5
                obtain ⟨qy, y0, y1, y2, y3⟩ := hr.get HX.out
                simp only at y0 y1 y2 y3
                have cGQ0 : w5.cell? ⟨KGQ, 0, none⟩ = some (.int .i64 q1) := gGQ.cell 0
                have cGQ1 : w5.cell? ⟨KGQ, 1, none⟩ = some (.int .i64 q2) := gGQ.cell 1
                have qGQ : KGQ < w5.heap.size := gGQ.lt
                have hxc := fun (x : Ext w5) => x.cell
                clear gGQ hr
                show wpQuiet _ _ _ _ [_, _, _, _, _, _, _, _, _, _, _] _
                repeat (go_big_quiet_step ((go_at_call 35; exact ext_call (GCk.out.ap2 _))))
                refine wpQuiet_nil ?_
                rfl
              case hvB18 => simp
              case hAB18 =>
                refine ⟨fun x hx => ?_, fun x hx => ?_, trivial⟩ <;> (obtain rfl := Option.some.inj hx)
                · exact fun b W => by go_simp
                · exact stOk_agg rfl rfl (by kernel_rfl) rfl (by kernel_rfl)
              case heB18 =>
                intro bs w7 hb7 hH _
                have HP0 := (hH 0 _ rfl).1
                obtain ⟨KHB, hKHB⟩ : ∃ K, K = bs 0 := ⟨_, rfl⟩
                clear hH
                simp only [putN, ← hKHB, Act.put, List.setIfInBounds_toArray, List.set_cons_zero, List.set_cons_succ] at HP0 ⊢
                clear hKHB
                replace G0 := Lib.hid (G0.out.below hb7 G0.out.lt)
                replace G2 := Lib.hid (G2.out.below hb7 G2.out.lt)
                replace GP := Lib.hid (GP.out.below hb7 GP.out.lt)
                replace GQ := Lib.hid (GQ.out.below hb7 GQ.out.lt)
                replace GR := Lib.hid (GR.out.below hb7 GR.out.lt)
                replace HA := Lib.hid (HA.out.below hb7 HA.out.lt)
                replace HR := Lib.hid (HR.out.up hb7)
                replace B := Lib.hid (bvia B.out hb7)
                clear hb7
                have HB : Hid (Has w7 KHB 25 [.int .i64 (ga * q1 + gb * q2), .int .i64 (gc * q1 + gd * q2)]) := HP0
                clear HP0
                go_upto_region 19 with (fail)
                refine wp_region_news [.q, .q, .q, .q, .q, .q, .q, .q, .q, .q, .mk 0, .st 0, .q] [⟨22, 136, none, 25, [.int .i64 0, .int .i64 0], [.int .i64 (ga * r1 + gb * r2), .int .i64 (gc * r1 + gd * r2)], .agg #[.int .i64 (ga * r1 + gb * r2), .int .i64 (gc * r1 + gd * r2)]⟩] ?aHB19 (by kernel_rfl) (by kernel_rfl) (by simp) (by simp) ?hqB19 ?hvB19 ?hAB19 ?heB19
                case hqB19 =>
                  intro w5 h5
                  have gGR := GR.out.below h5 GR.out.lt
                  have hr := HR.out.up h5
                  obtain ⟨qy, y0, y1, y2, y3⟩ := hr.get HX.out
                  simp only at y0 y1 y2 y3
                  have cGR0 : w5.cell? ⟨KGR, 0, none⟩ = some (.int .i64 r1) := gGR.cell 0
                  have cGR1 : w5.cell? ⟨KGR, 1, none⟩ = some (.int .i64 r2) := gGR.cell 1
                  have qGR : KGR < w5.heap.size := gGR.lt
                  have hxc := fun (x : Ext w5) => x.cell
                  clear gGR hr
                  show wpQuiet _ _ _ _ [_, _, _, _, _, _, _, _, _, _, _] _
                  repeat (go_big_quiet_step ((go_at_call 35; exact ext_call (GCk.out.ap3 _))))
                  refine wpQuiet_nil ?_
                  rfl
                case hvB19 => simp
                case hAB19 =>
                  refine ⟨fun x hx => ?_, fun x hx => ?_, trivial⟩ <;> (obtain rfl := Option.some.inj hx)
                  · exact fun b W => by go_simp
                  · exact stOk_agg rfl rfl (by kernel_rfl) rfl (by kernel_rfl)
                case heB19 =>
                  intro bs w8 hb8 hH _
                  have HP0 := (hH 0 _ rfl).1
                  obtain ⟨KHC, hKHC⟩ : ∃ K, K = bs 0 := ⟨_, rfl⟩
                  clear hH
                  simp only [putN, ← hKHC, Act.put, List.setIfInBounds_toArray, List.set_cons_zero, List.set_cons_succ] at HP0 ⊢
                  clear hKHC
                  replace G0 := Lib.hid (G0.out.below hb8 G0.out.lt)
                  replace G2 := Lib.hid (G2.out.below hb8 G2.out.lt)
                  replace GP := Lib.hid (GP.out.below hb8 GP.out.lt)
                  replace GQ := Lib.hid (GQ.out.below hb8 GQ.out.lt)
                  replace GR := Lib.hid (GR.out.below hb8 GR.out.lt)
                  replace HA := Lib.hid (HA.out.below hb8 HA.out.lt)
                  replace HB := Lib.hid (HB.out.below hb8 HB.out.lt)
                  replace HR := Lib.hid (HR.out.up hb8)
                  replace B := Lib.hid (bvia B.out hb8)
                  clear hb8
                  have HC : Hid (Has w8 KHC 25 [.int .i64 (ga * r1 + gb * r2), .int .i64 (gc * r1 + gd * r2)]) := HP0
                  clear HP0
                  go_upto_region 20 with (fail)
                  obtain ⟨qy, y0, y1, y2, y3⟩ := HR.out.get HX.out
                  simp only at y0 y1 y2 y3
                  have qG0 : w.heap.size < w8.heap.size := G0.out.lt
                  have qG2 : w.heap.size + 1 + 1 < w8.heap.size := G2.out.lt
                  have qGP : KGP < w8.heap.size := GP.out.lt
                  have qGQ : KGQ < w8.heap.size := GQ.out.lt
                  have qGR : KGR < w8.heap.size := GR.out.lt
                  have qHA : KHA < w8.heap.size := HA.out.lt
                  have qHB : KHB < w8.heap.size := HB.out.lt
                  have qHC : KHC < w8.heap.size := HC.out.lt
                  have hxc := fun (x : Ext w8) => x.cell
                  refine wp_region_ext (by kernel_rfl) (by kernel_rfl) ?_
                  repeat (go_big_quiet_step (fail))
                  refine wpQuiet_nil ?_
                  intro w9 hw'
                  have hb9 := ext_below hw'
                  clear hw'
                  clear qy y0 y1 y2 y3 qG0 qG2 qGP qGQ qGR qHA qHB qHC hxc
                  replace G0 := Lib.hid (G0.out.below hb9 G0.out.lt)
                  replace G2 := Lib.hid (G2.out.below hb9 G2.out.lt)
                  replace GP := Lib.hid (GP.out.below hb9 GP.out.lt)
                  replace GQ := Lib.hid (GQ.out.below hb9 GQ.out.lt)
                  replace GR := Lib.hid (GR.out.below hb9 GR.out.lt)
                  replace HA := Lib.hid (HA.out.below hb9 HA.out.lt)
                  replace HB := Lib.hid (HB.out.below hb9 HB.out.lt)
                  replace HC := Lib.hid (HC.out.below hb9 HC.out.lt)
                  replace HR := Lib.hid (HR.out.up hb9)
                  replace B := Lib.hid (bvia B.out hb9)
                  clear hb9
                  have cG00 : w9.cell? ⟨w.heap.size, 0, none⟩ = some (.int .i64 a) := G0.out.cell 0
                  have cG01 : w9.cell? ⟨w.heap.size, 1, none⟩ = some (.int .i64 b) := G0.out.cell 1
                  have cG02 : w9.cell? ⟨w.heap.size, 2, none⟩ = some (.int .i64 c) := G0.out.cell 2
                  have cHA0 : w9.cell? ⟨KHA, 0, none⟩ = some (.int .i64 (ga * p1 + gb * p2)) := HA.out.cell 0
                  have cHA1 : w9.cell? ⟨KHA, 1, none⟩ = some (.int .i64 (gc * p1 + gd * p2)) := HA.out.cell 1
                  have cHB0 : w9.cell? ⟨KHB, 0, none⟩ = some (.int .i64 (ga * q1 + gb * q2)) := HB.out.cell 0
                  have cHB1 : w9.cell? ⟨KHB, 1, none⟩ = some (.int .i64 (gc * q1 + gd * q2)) := HB.out.cell 1
                  go_wp2_with fail
                  refine (GCk.out.sq _).mono ?_
                  rintro e w10 ⟨rfl, hb10⟩
                  clear cG00 cG01 cG02 cHA0 cHA1 cHB0 cHB1
                  replace G0 := Lib.hid (G0.out.below hb10 G0.out.lt)
                  replace G2 := Lib.hid (G2.out.below hb10 G2.out.lt)
                  replace GP := Lib.hid (GP.out.below hb10 GP.out.lt)
                  replace GQ := Lib.hid (GQ.out.below hb10 GQ.out.lt)
                  replace GR := Lib.hid (GR.out.below hb10 GR.out.lt)
                  replace HA := Lib.hid (HA.out.below hb10 HA.out.lt)
                  replace HB := Lib.hid (HB.out.below hb10 HB.out.lt)
                  replace HC := Lib.hid (HC.out.below hb10 HC.out.lt)
                  replace HR := Lib.hid (HR.out.up hb10)
                  replace B := Lib.hid (bvia B.out hb10)
                  clear hb10
                  have cHA0 : w10.cell? ⟨KHA, 0, none⟩ = some (.int .i64 (ga * p1 + gb * p2)) := HA.out.cell 0
                  have cHA1 : w10.cell? ⟨KHA, 1, none⟩ = some (.int .i64 (gc * p1 + gd * p2)) := HA.out.cell 1
                  have cHB0 : w10.cell? ⟨KHB, 0, none⟩ = some (.int .i64 (ga * q1 + gb * q2)) := HB.out.cell 0
                  have cHB1 : w10.cell? ⟨KHB, 1, none⟩ = some (.int .i64 (gc * q1 + gd * q2)) := HB.out.cell 1
                  have cHC0 : w10.cell? ⟨KHC, 0, none⟩ = some (.int .i64 (ga * r1 + gb * r2)) := HC.out.cell 0
                  have cHC1 : w10.cell? ⟨KHC, 1, none⟩ = some (.int .i64 (gc * r1 + gd * r2)) := HC.out.cell 1
                  go_wp2_with fail
                  refine (GCk.out.sd _).mono ?_
                  rintro e w11 ⟨rfl, hb11⟩
                  clear cHA0 cHA1 cHB0 cHB1 cHC0 cHC1
                  replace G0 := Lib.hid (G0.out.below hb11 G0.out.lt)
                  replace G2 := Lib.hid (G2.out.below hb11 G2.out.lt)
                  replace GP := Lib.hid (GP.out.below hb11 GP.out.lt)
                  replace GQ := Lib.hid (GQ.out.below hb11 GQ.out.lt)
                  replace GR := Lib.hid (GR.out.below hb11 GR.out.lt)
                  replace HA := Lib.hid (HA.out.below hb11 HA.out.lt)
                  replace HB := Lib.hid (HB.out.below hb11 HB.out.lt)
                  replace HC := Lib.hid (HC.out.below hb11 HC.out.lt)
                  replace HR := Lib.hid (HR.out.up hb11)
                  replace B := Lib.hid (bvia B.out hb11)
                  clear hb11
                  obtain ⟨qy, y0, y1, y2, y3⟩ := HR.out.get HX.out
                  simp only at y0 y1 y2 y3
                  go_wp2_with fail
                  refine (GCk.out.iv _).mono ?_
                  rintro e w12 ⟨rfl, hb12⟩
                  clear qy y0 y1 y2 y3
                  replace G0 := Lib.hid (G0.out.below hb12 G0.out.lt)
                  replace G2 := Lib.hid (G2.out.below hb12 G2.out.lt)
                  replace GP := Lib.hid (GP.out.below hb12 GP.out.lt)
                  replace GQ := Lib.hid (GQ.out.below hb12 GQ.out.lt)
                  replace GR := Lib.hid (GR.out.below hb12 GR.out.lt)
                  replace HA := Lib.hid (HA.out.below hb12 HA.out.lt)
                  replace HB := Lib.hid (HB.out.below hb12 HB.out.lt)
                  replace HC := Lib.hid (HC.out.below hb12 HC.out.lt)
                  replace HR := Lib.hid (HR.out.up hb12)
                  replace B := Lib.hid (bvia B.out hb12)
                  clear hb12
                  go_upto_region 24 with (fail)
                  have D1 := Lib.hid ((Below.refl w12.heap.size w12).alloc (Nat.le_refl _) (.cells #[.int .i64 ((ga * gd - gb * gc) * gd), .int .i64 (-(ga * gd - gb * gc) * gb), .int .i64 (-(ga * gd - gb * gc) * gc), .int .i64 ((ga * gd - gb * gc) * ga), .int .i64 0, .int .i64 0] 58))
                  have HV2 : Hid (Has (w12.alloc (.cells #[.int .i64 ((ga * gd - gb * gc) * gd), .int .i64 (-(ga * gd - gb * gc) * gb), .int .i64 (-(ga * gd - gb * gc) * gc), .int .i64 ((ga * gd - gb * gc) * ga), .int .i64 0, .int .i64 0] 58)) w12.heap.size 58 [.int .i64 ((ga * gd - gb * gc) * gd), .int .i64 (-(ga * gd - gb * gc) * gb), .int .i64 (-(ga * gd - gb * gc) * gc), .int .i64 ((ga * gd - gb * gc) * ga), .int .i64 0, .int .i64 0]) := Has.new rfl
                  replace G0 := Lib.hid (G0.out.below D1.out G0.out.lt)
                  replace G2 := Lib.hid (G2.out.below D1.out G2.out.lt)
                  replace GP := Lib.hid (GP.out.below D1.out GP.out.lt)
                  replace GQ := Lib.hid (GQ.out.below D1.out GQ.out.lt)
                  replace GR := Lib.hid (GR.out.below D1.out GR.out.lt)
                  replace HA := Lib.hid (HA.out.below D1.out HA.out.lt)
                  replace HB := Lib.hid (HB.out.below D1.out HB.out.lt)
                  replace HC := Lib.hid (HC.out.below D1.out HC.out.lt)
                  replace HR := Lib.hid (HR.out.up D1.out)
                  replace B := Lib.hid (bvia B.out D1.out)
                  clear D1
                  generalize w12.alloc (.cells #[.int .i64 ((ga * gd - gb * gc) * gd), .int .i64 (-(ga * gd - gb * gc) * gb), .int .i64 (-(ga * gd - gb * gc) * gc), .int .i64 ((ga * gd - gb * gc) * ga), .int .i64 0, .int .i64 0] 58) = V13 at *
                  generalize w12.heap.size = KHV2 at *
                  have cHV20 : V13.cell? ⟨KHV2, 0, none⟩ = some (.int .i64 ((ga * gd - gb * gc) * gd)) := HV2.out.cell 0
                  have cHV21 : V13.cell? ⟨KHV2, 1, none⟩ = some (.int .i64 (-(ga * gd - gb * gc) * gb)) := HV2.out.cell 1
                  have cHV22 : V13.cell? ⟨KHV2, 2, none⟩ = some (.int .i64 (-(ga * gd - gb * gc) * gc)) := HV2.out.cell 2
                  have cHV23 : V13.cell? ⟨KHV2, 3, none⟩ = some (.int .i64 ((ga * gd - gb * gc) * ga)) := HV2.out.cell 3
                  have cHV24 : V13.cell? ⟨KHV2, 4, none⟩ = some (.int .i64 0) := HV2.out.cell 4
                  have cHV25 : V13.cell? ⟨KHV2, 5, none⟩ = some (.int .i64 0) := HV2.out.cell 5
                  go_wp2_with fail
                  refine (CI.out _ HR.out).mono ?_
                  rintro e w14 ⟨rfl, hb14⟩
                  clear cHV20 cHV21 cHV22 cHV23 cHV24 cHV25
                  replace G0 := Lib.hid (G0.out.below hb14 G0.out.lt)
                  replace G2 := Lib.hid (G2.out.below hb14 G2.out.lt)
                  replace GP := Lib.hid (GP.out.below hb14 GP.out.lt)
                  replace GQ := Lib.hid (GQ.out.below hb14 GQ.out.lt)
                  replace GR := Lib.hid (GR.out.below hb14 GR.out.lt)
                  replace HA := Lib.hid (HA.out.below hb14 HA.out.lt)
                  replace HB := Lib.hid (HB.out.below hb14 HB.out.lt)
                  replace HC := Lib.hid (HC.out.below hb14 HC.out.lt)
                  replace HV2 := Lib.hid (HV2.out.below hb14 HV2.out.lt)
                  replace HR := Lib.hid (HR.out.up hb14)
                  replace B := Lib.hid (bvia B.out hb14)
                  clear hb14
                  clear HA HB HC HV2 CI GCk i2 i3 i4 i5
                  go_wp2
                  go_loopw [31] (fun i wr => ∃ j : Nat, j ≤ n ∧ i = .int .i64 (j : Int) ∧ Hid (RdM4 wr wr.heap.size (some ⟨gb0, go0, none⟩) ms) ∧ Hid (Has wr (w.heap.size) 23 [.int .i64 a, .int .i64 b, .int .i64 c]) ∧ Hid (Has wr (w.heap.size + 1 + 1) 40 [.int .i64 m1, .int .i64 m2, .int .i64 m3, .int .i64 m4]) ∧ Hid (Has wr (KGP) 25 [.int .i64 p1, .int .i64 p2]) ∧ Hid (Has wr (KGQ) 25 [.int .i64 q1, .int .i64 q2]) ∧ Hid (Has wr (KGR) 25 [.int .i64 r1, .int .i64 r2]) ∧ Hid (Below w.heap.size w wr)) (fun i _ => n - (intOf i).toNat)
                  case atStart => exact ⟨0, Nat.zero_le _, rfl, HR, G0, G2, GP, GQ, GR, B⟩
                  case round =>
                    clear HR G0 G2 GP GQ GR B
                    obtain ⟨j, hj, rfl, HR, G0, G2, GP, GQ, GR, B⟩ := hrel
                    obtain ⟨wo2, rfl⟩ : ∃ wo2 : World, wo2 = wr := ⟨_, rfl⟩
                    by_cases hlt2 : j < n
                    case pos =>
                      have jj : (j : Int) < (n : Int) := by omega
                      have ij : IntKind.i64.wrap ((j : Int) + 1) = (j : Int) + 1 := IntWalk.i64_in _ (by omega)
                      obtain ⟨⟨ha, hb, hc, hd⟩, hx⟩ := get_of_lt (l := ms) (k := j) (by rw [HL.out]; exact hlt2)
                      have HX2 := Lib.hid hx
                      have hkeep := (HM.out _).1 (List.mem_of_getElem? hx)
                      have hkeep0 := (HM.out _).1 (List.mem_of_getElem? HX.out)
                      obtain ⟨_, _, fa, fb, fc, fd⟩ := keepG HV.out.1 HV.out.2.1 HV.out.2.2 hkeep
                      have CT := Lib.hid (fun W => rtimesC ga gb gc gd ha hb hc hd 10000 10000 W HF.out.1 HF.out.2.1 HF.out.2.2.1 HF.out.2.2.2 fa fb fc fd (by decide))
                      have hmul : (⟨ga * ha + gb * hc, ga * hb + gb * hd, gc * ha + gd * hc, gc * hb + gd * hd⟩ : La.Mat) ∈ ms := (HM.out _).2 (by
                        show La.lead ⟨a, b, c⟩ (La.mul ⟨ga, gb, gc, gd⟩ ⟨ha, hb, hc, hd⟩) = ⟨a, b, c⟩
                        rw [La.lead_mul, hkeep0, hkeep])
                      have CI2 : Hid (∀ x : Ext wo2, Calls Try.prog 44 #[.slice (some ⟨gb0, go0, none⟩) n cp, vM (ga * ha + gb * hc) (ga * hb + gb * hd) (gc * ha + gd * hc) (gc * hb + gd * hd)] x.out fun e w' => e = .returned (.bool true) ∧ Below x.out.heap.size x.out w') := fun x => by have := inC _ n cp ms (ga * ha + gb * hc) (ga * hb + gb * hd) (gc * ha + gd * hc) (gc * hb + gd * hd) x.out (HR.out.up x.below) HL.out (by omega); rw [decide_eq_true hmul] at this; exact this
                      clear hx fa fb fc fd hkeep hkeep0 hmul
                      go_upto_region 29 with (fail)
                      obtain ⟨qy, y0, y1, y2, y3⟩ := HR.out.get HX.out
                      simp only at y0 y1 y2 y3
                      obtain ⟨qz, z0, z1, z2, z3⟩ := HR.out.get HX2.out
                      simp only at z0 z1 z2 z3
                      have qG0 : w.heap.size < wo2.heap.size := G0.out.lt
                      have qG2 : w.heap.size + 1 + 1 < wo2.heap.size := G2.out.lt
                      have qGP : KGP < wo2.heap.size := GP.out.lt
                      have qGQ : KGQ < wo2.heap.size := GQ.out.lt
                      have qGR : KGR < wo2.heap.size := GR.out.lt
                      have hxc := fun (x : Ext wo2) => x.cell
                      refine wp_region_ext (by kernel_rfl) (by kernel_rfl) ?_
                      repeat (go_big_quiet_step ((first | (go_at_call 45; exact ext_call (CT.out _)) | (go_at_call 44; exact ext_call (CI2.out _)))))
                      refine wpQuiet_nil ?_
                      intro w15 hw'
                      have hb15 := ext_below hw'
                      clear hw'
                      clear qy y0 y1 y2 y3 qz z0 z1 z2 z3 qG0 qG2 qGP qGQ qGR hxc
                      replace G0 := Lib.hid (G0.out.below hb15 G0.out.lt)
                      replace G2 := Lib.hid (G2.out.below hb15 G2.out.lt)
                      replace GP := Lib.hid (GP.out.below hb15 GP.out.lt)
                      replace GQ := Lib.hid (GQ.out.below hb15 GQ.out.lt)
                      replace GR := Lib.hid (GR.out.below hb15 GR.out.lt)
                      replace HR := Lib.hid (HR.out.up hb15)
                      replace B := Lib.hid (bvia B.out hb15)
                      clear hb15
                      go_wp2
                      exact ⟨⟨j + 1, by omega, by rw [Int.natCast_add]; rfl, HR, G0, G2, GP, GQ, GR, B⟩, by first | (simp [intOf]; done) | (simp [intOf]; omega)⟩
                    case neg =>
                      obtain rfl : j = n := by omega
                      have jj : ¬ (j : Int) < (j : Int) := by omega
                      go_wp2
                      exact ⟨⟨k + 1, by omega, by rw [Int.natCast_add]; rfl, HR, G0, G2, GP, GQ, GR, B⟩, by first | (simp [intOf]; done) | (simp [intOf]; omega)⟩
          case neg =>
            obtain rfl : k = n := by omega
            have jk : ¬ (k : Int) < (k : Int) := by omega
            have CM := Lib.hid (fun W => rmatrixC m1 m2 m3 m4 W)
            clear HG HS
            cases hm : okM m1 m2 m3 m4 with
            | false =>
              have CK := Lib.hid (fun W => keepsNC a b c m1 m2 m3 m4 W HOK.out hm)
              rw [hm] at CM
              clear hm
              have cG00 : wo.cell? ⟨w.heap.size, 0, none⟩ = some (.int .i64 a) := G0.out.cell 0
              have cG01 : wo.cell? ⟨w.heap.size, 1, none⟩ = some (.int .i64 b) := G0.out.cell 1
              have cG02 : wo.cell? ⟨w.heap.size, 2, none⟩ = some (.int .i64 c) := G0.out.cell 2
              have cG20 : wo.cell? ⟨w.heap.size + 1 + 1, 0, none⟩ = some (.int .i64 m1) := G2.out.cell 0
              have cG21 : wo.cell? ⟨w.heap.size + 1 + 1, 1, none⟩ = some (.int .i64 m2) := G2.out.cell 1
              have cG22 : wo.cell? ⟨w.heap.size + 1 + 1, 2, none⟩ = some (.int .i64 m3) := G2.out.cell 2
              have cG23 : wo.cell? ⟨w.heap.size + 1 + 1, 3, none⟩ = some (.int .i64 m4) := G2.out.cell 3
              go_wp2_with fail
              refine (CK.out _).mono ?_
              rintro e w17 ⟨rfl, hb17⟩
              clear cG00 cG01 cG02 cG20 cG21 cG22 cG23
              replace G0 := Lib.hid (G0.out.below hb17 G0.out.lt)
              replace G2 := Lib.hid (G2.out.below hb17 G2.out.lt)
              replace GP := Lib.hid (GP.out.below hb17 GP.out.lt)
              replace GQ := Lib.hid (GQ.out.below hb17 GQ.out.lt)
              replace GR := Lib.hid (GR.out.below hb17 GR.out.lt)
              replace HR := Lib.hid (HR.out.up hb17)
              replace B := Lib.hid (bvia B.out hb17)
              clear hb17
              have cG20 : w17.cell? ⟨w.heap.size + 1 + 1, 0, none⟩ = some (.int .i64 m1) := G2.out.cell 0
              have cG21 : w17.cell? ⟨w.heap.size + 1 + 1, 1, none⟩ = some (.int .i64 m2) := G2.out.cell 1
              have cG22 : w17.cell? ⟨w.heap.size + 1 + 1, 2, none⟩ = some (.int .i64 m3) := G2.out.cell 2
              have cG23 : w17.cell? ⟨w.heap.size + 1 + 1, 3, none⟩ = some (.int .i64 m4) := G2.out.cell 3
              go_wp2_with fail
              refine (CM.out _).mono ?_
              rintro e w18 ⟨rfl, hb18⟩
              clear cG20 cG21 cG22 cG23
              replace G0 := Lib.hid (G0.out.below hb18 G0.out.lt)
              replace G2 := Lib.hid (G2.out.below hb18 G2.out.lt)
              replace GP := Lib.hid (GP.out.below hb18 GP.out.lt)
              replace GQ := Lib.hid (GQ.out.below hb18 GQ.out.lt)
              replace GR := Lib.hid (GR.out.below hb18 GR.out.lt)
              replace HR := Lib.hid (HR.out.up hb18)
              replace B := Lib.hid (bvia B.out hb18)
              clear hb18
              go_wp2_with fail
              go_wp2_with fail
              refine (awakeC _).mono ?_
              rintro e w19 ⟨rfl, hb19⟩
              replace G0 := Lib.hid (G0.out.below hb19 G0.out.lt)
              replace G2 := Lib.hid (G2.out.below hb19 G2.out.lt)
              replace GP := Lib.hid (GP.out.below hb19 GP.out.lt)
              replace GQ := Lib.hid (GQ.out.below hb19 GQ.out.lt)
              replace GR := Lib.hid (GR.out.below hb19 GR.out.lt)
              replace HR := Lib.hid (HR.out.up hb19)
              replace B := Lib.hid (bvia B.out hb19)
              clear hb19
              go_wp2
              go_ret
              exact ⟨rfl, B.out⟩
            | true =>
              have CK := Lib.hid (fun W => keepsC a b c m1 m2 m3 m4 W HOK.out hm)
              rw [hm] at CM
              have CI3 := Lib.hid (fun W (hr : RdM4 W W.heap.size (some ⟨gb0, go0, none⟩) ms) => inC _ k cp ms m1 m2 m3 m4 W hr HL.out (by omega))
              rw [show decide (La.lead ⟨a, b, c⟩ ⟨m1, m2, m3, m4⟩ = ⟨a, b, c⟩) = decide ((⟨m1, m2, m3, m4⟩ : La.Mat) ∈ ms) from decide_eq_decide.2 (HM.out _).symm] at CK
              generalize decide ((⟨m1, m2, m3, m4⟩ : La.Mat) ∈ ms) = E at *
              clear hm
              have cG00 : wo.cell? ⟨w.heap.size, 0, none⟩ = some (.int .i64 a) := G0.out.cell 0
              have cG01 : wo.cell? ⟨w.heap.size, 1, none⟩ = some (.int .i64 b) := G0.out.cell 1
              have cG02 : wo.cell? ⟨w.heap.size, 2, none⟩ = some (.int .i64 c) := G0.out.cell 2
              have cG20 : wo.cell? ⟨w.heap.size + 1 + 1, 0, none⟩ = some (.int .i64 m1) := G2.out.cell 0
              have cG21 : wo.cell? ⟨w.heap.size + 1 + 1, 1, none⟩ = some (.int .i64 m2) := G2.out.cell 1
              have cG22 : wo.cell? ⟨w.heap.size + 1 + 1, 2, none⟩ = some (.int .i64 m3) := G2.out.cell 2
              have cG23 : wo.cell? ⟨w.heap.size + 1 + 1, 3, none⟩ = some (.int .i64 m4) := G2.out.cell 3
              go_wp2_with fail
              refine (CK.out _).mono ?_
              rintro e w17 ⟨rfl, hb17⟩
              clear cG00 cG01 cG02 cG20 cG21 cG22 cG23
              replace G0 := Lib.hid (G0.out.below hb17 G0.out.lt)
              replace G2 := Lib.hid (G2.out.below hb17 G2.out.lt)
              replace GP := Lib.hid (GP.out.below hb17 GP.out.lt)
              replace GQ := Lib.hid (GQ.out.below hb17 GQ.out.lt)
              replace GR := Lib.hid (GR.out.below hb17 GR.out.lt)
              replace HR := Lib.hid (HR.out.up hb17)
              replace B := Lib.hid (bvia B.out hb17)
              clear hb17
              have cG20 : w17.cell? ⟨w.heap.size + 1 + 1, 0, none⟩ = some (.int .i64 m1) := G2.out.cell 0
              have cG21 : w17.cell? ⟨w.heap.size + 1 + 1, 1, none⟩ = some (.int .i64 m2) := G2.out.cell 1
              have cG22 : w17.cell? ⟨w.heap.size + 1 + 1, 2, none⟩ = some (.int .i64 m3) := G2.out.cell 2
              have cG23 : w17.cell? ⟨w.heap.size + 1 + 1, 3, none⟩ = some (.int .i64 m4) := G2.out.cell 3
              go_wp2_with fail
              refine (CM.out _).mono ?_
              rintro e w18 ⟨rfl, hb18⟩
              clear cG20 cG21 cG22 cG23
              replace G0 := Lib.hid (G0.out.below hb18 G0.out.lt)
              replace G2 := Lib.hid (G2.out.below hb18 G2.out.lt)
              replace GP := Lib.hid (GP.out.below hb18 GP.out.lt)
              replace GQ := Lib.hid (GQ.out.below hb18 GQ.out.lt)
              replace GR := Lib.hid (GR.out.below hb18 GR.out.lt)
              replace HR := Lib.hid (HR.out.up hb18)
              replace B := Lib.hid (bvia B.out hb18)
              clear hb18
              have cG20 : w18.cell? ⟨w.heap.size + 1 + 1, 0, none⟩ = some (.int .i64 m1) := G2.out.cell 0
              have cG21 : w18.cell? ⟨w.heap.size + 1 + 1, 1, none⟩ = some (.int .i64 m2) := G2.out.cell 1
              have cG22 : w18.cell? ⟨w.heap.size + 1 + 1, 2, none⟩ = some (.int .i64 m3) := G2.out.cell 2
              have cG23 : w18.cell? ⟨w.heap.size + 1 + 1, 3, none⟩ = some (.int .i64 m4) := G2.out.cell 3
              go_wp2_with fail
              refine (CI3.out _ HR.out).mono ?_
              rintro e w19 ⟨rfl, hb19⟩
              clear cG20 cG21 cG22 cG23
              replace G0 := Lib.hid (G0.out.below hb19 G0.out.lt)
              replace G2 := Lib.hid (G2.out.below hb19 G2.out.lt)
              replace GP := Lib.hid (GP.out.below hb19 GP.out.lt)
              replace GQ := Lib.hid (GQ.out.below hb19 GQ.out.lt)
              replace GR := Lib.hid (GR.out.below hb19 GR.out.lt)
              replace HR := Lib.hid (HR.out.up hb19)
              replace B := Lib.hid (bvia B.out hb19)
              clear hb19
              go_wp2_with fail
              go_wp2_with fail
              refine (awakeC _).mono ?_
              rintro e w20 ⟨rfl, hb20⟩
              replace G0 := Lib.hid (G0.out.below hb20 G0.out.lt)
              replace G2 := Lib.hid (G2.out.below hb20 G2.out.lt)
              replace GP := Lib.hid (GP.out.below hb20 GP.out.lt)
              replace GQ := Lib.hid (GQ.out.below hb20 GQ.out.lt)
              replace GR := Lib.hid (GR.out.below hb20 GR.out.lt)
              replace HR := Lib.hid (HR.out.up hb20)
              replace B := Lib.hid (bvia B.out hb20)
              clear hb20
              go_wp2
              go_ret
              exact ⟨rfl, B.out⟩
end Go.Proofs.Ytmghpaibdgkbfaa
