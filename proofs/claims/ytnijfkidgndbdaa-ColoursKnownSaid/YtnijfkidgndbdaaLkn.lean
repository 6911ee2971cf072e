/-
  Walk of the law ColoursKnown: the examples of the document.
-/
import Derived.Test.YtnijfkidgndbdaaSha
namespace Go.Proofs.Ytnijfkidgndbdaa
open Go.RowKit
theorem kn_showE : showE 4 exX exP 3 = 0 := by decide +kernel
theorem kn_show : showR 4 exX exP 3 = [2] := by decide +kernel
theorem kn_ck : ckE 4 exX exP = 0 := by decide +kernel
theorem kn_hid : hidR 4 exX exP = [] := by decide +kernel
theorem kn_chk1 : chkE 4 exX exP [1, 1, 2, 2] = 0 := by decide +kernel
theorem kn_runs : runsR 4 exX exP [1, 1, 2, 2] = [⟨1, 0, 1⟩, ⟨2, 1, 2⟩, ⟨1, 3, 1⟩] := by decide +kernel
theorem kn_chk2 : chkE 4 exX exP [1, 2, 1, 2] = 0 := by decide +kernel
theorem kn_plain : plainR 4 exX exP [1, 2, 1, 2] = [1, 2] := by decide +kernel
theorem kn_share : shareR 4 exX exP [1, 2, 1, 2] = [0, 2, 2, 0, 0, 0, 0, 0, 0, 0, 0, 0, 0, 0, 0, 0] := by decide +kernel
theorem kn_sameE : sameE 4 exX exP [5, 6, 7, 8] [5, 6, 7, 9] = 0 := by decide +kernel
theorem kn_same : sameV 4 exX exP [5, 6, 7, 8] [5, 6, 7, 9] = 2 := by decide +kernel
theorem kn_lineE : lineE 4 exX exP [5, 6, 7, 8] 5 = 7 := by decide +kernel
theorem kn_line : lineR 4 exX exP [5, 6, 7, 8] 5 = [] := by decide +kernel
theorem kn_chk3 : chkE 4 exX exP [5, 6, 7] = 2 := by decide +kernel
theorem kn_chk4 : chkE 4 exX exP [5, 6, 7, 16] = 2 := by decide +kernel
section
variable (A B D E : Option Addr) (w : World) (hx : RdQ w w.heap.size A exX) (hp : RdQ w w.heap.size B exP)
include hx hp
theorem knShows : Calls Try.prog 32 #[vCloth 4 A 4 4 B 1 1, .int .i64 3] w (RetIE [2] 0 w) := by
  have h := shows32 4 A B 4 4 1 1 3 exX exP w (by omega) (by omega) hx hp rfl rfl (by omega)
  rwa [kn_showE, kn_show] at h
theorem knHidden : Calls Try.prog 31 #[vCloth 4 A 4 4 B 1 1] w (RetIE [] 0 w) := by
  have h := hidden31 4 A B 4 4 1 1 exX exP w (by omega) (by omega) hx hp rfl rfl (by omega)
  rwa [kn_ck, kn_hid] at h
theorem knRuns (hd : RdI w w.heap.size D [1, 1, 2, 2]) : Calls Try.prog 27 #[vCloth 4 A 4 4 B 1 1, .slice D 4 4] w (RetRE [⟨1, 0, 1⟩, ⟨2, 1, 2⟩, ⟨1, 3, 1⟩] 0 w) := by
  have h := runs27 4 A B D 4 4 1 1 4 4 exX exP [1, 1, 2, 2] w (by omega) (by omega) (by omega) hx hp hd rfl rfl rfl (by omega)
  rwa [kn_chk1, kn_runs] at h
theorem knPlain (hd : RdI w w.heap.size D [1, 2, 1, 2]) : Calls Try.prog 25 #[vCloth 4 A 4 4 B 1 1, .slice D 4 4] w (RetIE [1, 2] 0 w) := by
  have h := plain25 4 A B D 4 4 1 1 4 4 exX exP [1, 2, 1, 2] w (by omega) (by omega) (by omega) hx hp hd rfl rfl rfl (by omega)
  rwa [kn_chk2, kn_plain] at h
theorem knShare (hd : RdI w w.heap.size D [1, 2, 1, 2]) : Calls Try.prog 35 #[vCloth 4 A 4 4 B 1 1, .slice D 4 4] w (RetIE [0, 2, 2, 0, 0, 0, 0, 0, 0, 0, 0, 0, 0, 0, 0, 0] 0 w) := by
  have h := share35 4 A B D 4 4 1 1 4 4 exX exP [1, 2, 1, 2] w (by omega) (by omega) (by omega) hx hp hd rfl rfl rfl (by omega)
  rwa [kn_chk2, kn_share] at h
theorem knSame (hd : RdI w w.heap.size D [5, 6, 7, 8]) (he : RdI w w.heap.size E [5, 6, 7, 9]) : Calls Try.prog 29 #[vCloth 4 A 4 4 B 1 1, .slice D 4 4, .slice E 4 4] w fun e w' => e = .returned (.tuple #[.int .i64 2, .int .i64 0]) ∧ Below w.heap.size w w' := by
  have h := same29 4 A B D E 4 4 1 1 4 4 4 4 exX exP [5, 6, 7, 8] [5, 6, 7, 9] w (by omega) (by omega) (by omega) (by omega) hx hp hd he rfl rfl rfl rfl (by omega)
  rwa [kn_sameE, kn_same] at h
theorem knLine (hd : RdI w w.heap.size D [5, 6, 7, 8]) : Calls Try.prog 21 #[vCloth 4 A 4 4 B 1 1, .slice D 4 4, .int .i64 5] w (RetIE [] 7 w) := by
  have h := line21 4 A B D 4 4 1 1 4 4 5 exX exP [5, 6, 7, 8] w (by omega) (by omega) (by omega) hx hp hd rfl rfl rfl (by omega) (by omega)
  rwa [kn_lineE, kn_line] at h
theorem knCheck3 (hd : RdI w w.heap.size D [5, 6, 7]) : Calls Try.prog 16 #[vCloth 4 A 4 4 B 1 1, .slice D 3 3] w fun e w' => e = .returned (.int .i64 2) ∧ Below w.heap.size w w' := by
  have h := check16 4 A B D 4 4 1 1 3 3 exX exP [5, 6, 7] w (by omega) (by omega) (by omega) hx hp hd rfl rfl rfl (by omega)
  rwa [kn_chk3] at h
theorem knCheck4 (hd : RdI w w.heap.size D [5, 6, 7, 16]) : Calls Try.prog 16 #[vCloth 4 A 4 4 B 1 1, .slice D 4 4] w fun e w' => e = .returned (.int .i64 2) ∧ Below w.heap.size w w' := by
  have h := check16 4 A B D 4 4 1 1 4 4 exX exP [5, 6, 7, 16] w (by omega) (by omega) (by omega) hx hp hd rfl rfl rfl (by omega)
  rwa [kn_chk4] at h
end
set_option maxRecDepth 100000 in
set_option maxHeartbeats 8000000 in
theorem knownOf (w : World) : Calls Try.prog 11 #[] w fun e w' => e = .returned (.bool true) ∧ Below w.heap.size w w' := by
  go_enter Try.func11, Try.ntmps11
  go_wp2_with fail
  refine (example39 _).mono ?_
  rintro e w0 ⟨A, B, rfl, x0, p0, hb0⟩
  go_wp2_with fail
  have K0 : Has (w0.alloc (.cells #[.int .i64 4, .slice A 4 4, .slice B 1 1] 25)) w0.heap.size 25 [.int .i64 4, .slice A 4 4, .slice B 1 1] := Has.new rfl
  have g0 : Below w0.heap.size w0 (w0.alloc (.cells #[.int .i64 4, .slice A 4 4, .slice B 1 1] 25)) := by go_grown
  have HX := Lib.hid (x0.up g0); have HP := Lib.hid (p0.up g0)
  have B0 := bvia hb0 g0
  have HB := Lib.hid K0
  obtain ⟨gc, hgc⟩ : ∃ gc, gc = w0.heap.size := ⟨_, rfl⟩
  clear K0 g0 x0 p0 hb0
  rw [← hgc] at HB ⊢
  generalize hW : w0.alloc (.cells #[.int .i64 4, .slice A 4 4, .slice B 1 1] 25) = w1 at *
  clear hW hgc
  have a0 : w1.cell? ⟨gc, 0, none⟩ = some (.int .i64 4) := HB.out.cell 0
  have a1 : w1.cell? ⟨gc, 1, none⟩ = some (.slice A 4 4) := HB.out.cell 1
  have a2 : w1.cell? ⟨gc, 2, none⟩ = some (.slice B 1 1) := HB.out.cell 2
  have q := HB.out.lt
  refine (knShows A B _ HX.out HP.out).mono ?_
  rintro e w2 ⟨A2, n2, c2, rfl, r2, l2, k2, k2', hb2⟩
  obtain rfl : 1 = n2 := l2
  have hc2 := hb2
  replace HX := Lib.hid (HX.out.up hc2)
  replace HP := Lib.hid (HP.out.up hc2)
  replace HB := Lib.hid (HB.out.below hc2 HB.out.lt)
  have B2 := bvia B0 hc2
  have RA := Lib.hid r2
  clear a0 a1 a2 q hb2 hc2 r2
  have a0 : w2.cell? ⟨gc, 0, none⟩ = some (.int .i64 4) := HB.out.cell 0
  have a1 : w2.cell? ⟨gc, 1, none⟩ = some (.slice A 4 4) := HB.out.cell 1
  have a2 : w2.cell? ⟨gc, 2, none⟩ = some (.slice B 1 1) := HB.out.cell 2
  have q := HB.out.lt
  go_wp2_with fail
  refine (knHidden A B _ HX.out HP.out).mono ?_
  rintro e w3 ⟨A3, n3, c3, rfl, r3, l3, k3, k3', hb3⟩
  obtain rfl : 0 = n3 := l3
  have hc3 := hb3
  replace RA := Lib.hid (RA.out.up hc3)
  replace HX := Lib.hid (HX.out.up hc3)
  replace HP := Lib.hid (HP.out.up hc3)
  replace HB := Lib.hid (HB.out.below hc3 HB.out.lt)
  have B3 := bvia B2 hc3
  clear a0 a1 a2 q hb3 hc3 r3
  have a0 : w3.cell? ⟨gc, 0, none⟩ = some (.int .i64 4) := HB.out.cell 0
  have a1 : w3.cell? ⟨gc, 1, none⟩ = some (.slice A 4 4) := HB.out.cell 1
  have a2 : w3.cell? ⟨gc, 2, none⟩ = some (.slice B 1 1) := HB.out.cell 2
  have q := HB.out.lt
  go_wp2_with fail
  have gl : Below w3.heap.size w3 (w3.alloc (.cells (([1, 1, 2, 2] : List Int).map vInt).toArray 3)) := by go_grown
  have D1 := Lib.hid (rdI_lit w3 [1, 1, 2, 2])
  refine (knRuns A B (some ⟨w3.heap.size, 0, none⟩) _ (HX.out.up gl) (HP.out.up gl) D1.out).mono ?_
  rintro e w4 ⟨A4, n4, c4, rfl, r4, l4, hb4⟩
  obtain rfl : 3 = n4 := l4
  have hc4 := bvia gl hb4
  replace RA := Lib.hid (RA.out.up hc4)
  replace HX := Lib.hid (HX.out.up hc4)
  replace HP := Lib.hid (HP.out.up hc4)
  replace HB := Lib.hid (HB.out.below hc4 HB.out.lt)
  have B4 := bvia B3 hc4
  have RR := Lib.hid (own_rdR r4)
  clear a0 a1 a2 q hb4 hc4 r4 gl D1
  have a0 : w4.cell? ⟨gc, 0, none⟩ = some (.int .i64 4) := HB.out.cell 0
  have a1 : w4.cell? ⟨gc, 1, none⟩ = some (.slice A 4 4) := HB.out.cell 1
  have a2 : w4.cell? ⟨gc, 2, none⟩ = some (.slice B 1 1) := HB.out.cell 2
  have q := HB.out.lt
  go_wp2_with fail
  have gl : Below w4.heap.size w4 (w4.alloc (.cells (([1, 2, 1, 2] : List Int).map vInt).toArray 3)) := by go_grown
  have D1 := Lib.hid (rdI_lit w4 [1, 2, 1, 2])
  refine (knPlain A B (some ⟨w4.heap.size, 0, none⟩) _ (HX.out.up gl) (HP.out.up gl) D1.out).mono ?_
  rintro e w5 ⟨A5, n5, c5, rfl, r5, l5, k5, k5', hb5⟩
  obtain rfl : 2 = n5 := l5
  have hc5 := bvia gl hb5
  replace RA := Lib.hid (RA.out.up hc5)
  replace RR := Lib.hid (RdR.up RR.out hc5)
  replace HX := Lib.hid (HX.out.up hc5)
  replace HP := Lib.hid (HP.out.up hc5)
  replace HB := Lib.hid (HB.out.below hc5 HB.out.lt)
  have B5 := bvia B4 hc5
  have RP := Lib.hid r5
  clear a0 a1 a2 q hb5 hc5 r5 gl D1
  have a0 : w5.cell? ⟨gc, 0, none⟩ = some (.int .i64 4) := HB.out.cell 0
  have a1 : w5.cell? ⟨gc, 1, none⟩ = some (.slice A 4 4) := HB.out.cell 1
  have a2 : w5.cell? ⟨gc, 2, none⟩ = some (.slice B 1 1) := HB.out.cell 2
  have q := HB.out.lt
  go_wp2_with fail
  have gl : Below w5.heap.size w5 (w5.alloc (.cells (([1, 2, 1, 2] : List Int).map vInt).toArray 3)) := by go_grown
  have D1 := Lib.hid (rdI_lit w5 [1, 2, 1, 2])
  refine (knShare A B (some ⟨w5.heap.size, 0, none⟩) _ (HX.out.up gl) (HP.out.up gl) D1.out).mono ?_
  rintro e w6 ⟨A6, n6, c6, rfl, r6, l6, k6, k6', hb6⟩
  obtain rfl : 16 = n6 := l6
  have hc6 := bvia gl hb6
  replace RA := Lib.hid (RA.out.up hc6)
  replace RP := Lib.hid (RP.out.up hc6)
  replace RR := Lib.hid (RdR.up RR.out hc6)
  replace HX := Lib.hid (HX.out.up hc6)
  replace HP := Lib.hid (HP.out.up hc6)
  replace HB := Lib.hid (HB.out.below hc6 HB.out.lt)
  have B6 := bvia B5 hc6
  have RS := Lib.hid r6
  clear a0 a1 a2 q hb6 hc6 r6 gl D1
  have a0 : w6.cell? ⟨gc, 0, none⟩ = some (.int .i64 4) := HB.out.cell 0
  have a1 : w6.cell? ⟨gc, 1, none⟩ = some (.slice A 4 4) := HB.out.cell 1
  have a2 : w6.cell? ⟨gc, 2, none⟩ = some (.slice B 1 1) := HB.out.cell 2
  have q := HB.out.lt
  go_wp2_with fail
  have gl1 : Below w6.heap.size w6 (w6.alloc (.cells (([5, 6, 7, 8] : List Int).map vInt).toArray 3)) := by go_grown
  have gl2 : Below (w6.alloc (.cells (([5, 6, 7, 8] : List Int).map vInt).toArray 3)).heap.size (w6.alloc (.cells (([5, 6, 7, 8] : List Int).map vInt).toArray 3)) ((w6.alloc (.cells (([5, 6, 7, 8] : List Int).map vInt).toArray 3)).alloc (.cells (([5, 6, 7, 9] : List Int).map vInt).toArray 3)) := by go_grown
  have gl := bvia gl1 gl2
  have D1 := Lib.hid ((rdI_lit w6 [5, 6, 7, 8]).up gl2)
  have D2 := rdI_lit (w6.alloc (.cells (([5, 6, 7, 8] : List Int).map vInt).toArray 3)) [5, 6, 7, 9]
  have e2 : (w6.alloc (.cells (([5, 6, 7, 8] : List Int).map vInt).toArray 3)).heap.size = w6.heap.size + 1 := by simp
  have D2 := Lib.hid D2
  refine (knSame A B (some ⟨w6.heap.size, 0, none⟩) (some ⟨w6.heap.size + 1, 0, none⟩) _ (HX.out.up gl) (HP.out.up gl) D1.out (by rw [← e2]; exact D2.out)).mono ?_
  rintro e w7 ⟨rfl, hb7⟩
  have hc7 := bvia gl hb7
  replace RA := Lib.hid (RA.out.up hc7)
  replace RP := Lib.hid (RP.out.up hc7)
  replace RS := Lib.hid (RS.out.up hc7)
  replace RR := Lib.hid (RdR.up RR.out hc7)
  replace HX := Lib.hid (HX.out.up hc7)
  replace HP := Lib.hid (HP.out.up hc7)
  replace HB := Lib.hid (HB.out.below hc7 HB.out.lt)
  have B7 := bvia B6 hc7
  clear a0 a1 a2 q hb7 hc7 gl gl1 gl2 D1 D2 e2
  have a0 : w7.cell? ⟨gc, 0, none⟩ = some (.int .i64 4) := HB.out.cell 0
  have a1 : w7.cell? ⟨gc, 1, none⟩ = some (.slice A 4 4) := HB.out.cell 1
  have a2 : w7.cell? ⟨gc, 2, none⟩ = some (.slice B 1 1) := HB.out.cell 2
  have q := HB.out.lt
  go_wp2_with fail
  have gl : Below w7.heap.size w7 (w7.alloc (.cells (([5, 6, 7, 8] : List Int).map vInt).toArray 3)) := by go_grown
  have D1 := Lib.hid (rdI_lit w7 [5, 6, 7, 8])
  refine (knLine A B (some ⟨w7.heap.size, 0, none⟩) _ (HX.out.up gl) (HP.out.up gl) D1.out).mono ?_
  rintro e w8 ⟨A8, n8, c8, rfl, r8, l8, k8, k8', hb8⟩
  obtain rfl : 0 = n8 := l8
  have hc8 := bvia gl hb8
  replace RA := Lib.hid (RA.out.up hc8)
  replace RP := Lib.hid (RP.out.up hc8)
  replace RS := Lib.hid (RS.out.up hc8)
  replace RR := Lib.hid (RdR.up RR.out hc8)
  replace HX := Lib.hid (HX.out.up hc8)
  replace HP := Lib.hid (HP.out.up hc8)
  replace HB := Lib.hid (HB.out.below hc8 HB.out.lt)
  have B8 := bvia B7 hc8
  clear a0 a1 a2 q hb8 hc8 r8 gl D1
  go_wp2_with fail
  have gl : Below w8.heap.size w8 (w8.alloc (.cells (([2] : List Int).map vInt).toArray 3)) := by go_grown
  have J1 := Lib.hid (ints18 A2 (some ⟨w8.heap.size, 0, none⟩) 1 1 c2 1 [2] [2] _ (by omega) (by omega) (RA.out.up gl) (rdI_lit w8 [2]) rfl rfl)
  refine J1.out.mono ?_
  rintro e w9 ⟨rfl, hb9⟩
  have hc9 := bvia gl hb9
  replace RA := Lib.hid (RA.out.up hc9)
  replace RP := Lib.hid (RP.out.up hc9)
  replace RS := Lib.hid (RS.out.up hc9)
  replace RR := Lib.hid (RdR.up RR.out hc9)
  replace HX := Lib.hid (HX.out.up hc9)
  replace HP := Lib.hid (HP.out.up hc9)
  replace HB := Lib.hid (HB.out.below hc9 HB.out.lt)
  have B9 := bvia B8 hc9
  clear hb9 hc9 gl J1
  obtain ⟨br0, or0, er0, zr0, u00, u01, u02⟩ := RR.out 0 ⟨1, 0, 1⟩ rfl
  obtain ⟨br1, or1, er1, zr1, u10, u11, u12⟩ := RR.out 1 ⟨2, 1, 2⟩ rfl
  obtain ⟨br2, or2, er2, zr2, u20, u21, u22⟩ := RR.out 2 ⟨1, 3, 1⟩ rfl
  subst er0
  injection er1 with er1; injection er1 with er1 er1'
  subst er1 er1'
  injection er2 with er2; injection er2 with er2 er2'
  subst er2 er2'
  simp only [Nat.zero_mul, Nat.one_mul, Nat.add_zero, Nat.reduceMul] at u00 u01 u02 u10 u11 u12 u20 u21 u22
  have EQ0 := fun W => eqRn 1 0 1 W
  have EQ1 := fun W => eqRn 2 1 2 W
  have EQ2 := fun W => eqRn 1 3 1 W
  go_wp2_with fail
  have gl : Below w9.heap.size w9 (w9.alloc (.cells (([1, 2] : List Int).map vInt).toArray 3)) := by go_grown
  have J1 := Lib.hid (ints18 A5 (some ⟨w9.heap.size, 0, none⟩) 2 2 c5 2 [1, 2] [1, 2] _ (by omega) (by omega) (RP.out.up gl) (rdI_lit w9 [1, 2]) rfl rfl)
  refine J1.out.mono ?_
  rintro e w10 ⟨rfl, hb10⟩
  have hc10 := bvia gl hb10
  replace RA := Lib.hid (RA.out.up hc10)
  replace RP := Lib.hid (RP.out.up hc10)
  replace RS := Lib.hid (RS.out.up hc10)
  replace RR := Lib.hid (RdR.up RR.out hc10)
  replace HX := Lib.hid (HX.out.up hc10)
  replace HP := Lib.hid (HP.out.up hc10)
  replace HB := Lib.hid (HB.out.below hc10 HB.out.lt)
  have B10 := bvia B9 hc10
  clear hb10 hc10 gl J1
  obtain ⟨bs1, os1, es1, zs1, s1⟩ := RS.out 1 2 rfl
  obtain ⟨bs2, os2, es2, zs2, s2⟩ := RS.out 2 2 rfl
  subst es1
  injection es2 with es2; injection es2 with es2 es2'
  subst es2 es2'
  have a0 : w10.cell? ⟨gc, 0, none⟩ = some (.int .i64 4) := HB.out.cell 0
  have a1 : w10.cell? ⟨gc, 1, none⟩ = some (.slice A 4 4) := HB.out.cell 1
  have a2 : w10.cell? ⟨gc, 2, none⟩ = some (.slice B 1 1) := HB.out.cell 2
  have q := HB.out.lt
  go_wp2_with fail
  have gl : Below w10.heap.size w10 (w10.alloc (.cells (([5, 6, 7] : List Int).map vInt).toArray 3)) := by go_grown
  refine (knCheck3 A B (some ⟨w10.heap.size, 0, none⟩) _ (HX.out.up gl) (HP.out.up gl) (rdI_lit w10 [5, 6, 7])).mono ?_
  rintro e w11 ⟨rfl, hb11⟩
  have hc11 := bvia gl hb11
  replace RA := Lib.hid (RA.out.up hc11)
  replace RP := Lib.hid (RP.out.up hc11)
  replace RS := Lib.hid (RS.out.up hc11)
  replace RR := Lib.hid (RdR.up RR.out hc11)
  replace HX := Lib.hid (HX.out.up hc11)
  replace HP := Lib.hid (HP.out.up hc11)
  replace HB := Lib.hid (HB.out.below hc11 HB.out.lt)
  have B11 := bvia B10 hc11
  clear hb11 hc11 gl a0 a1 a2 q
  have a0 : w11.cell? ⟨gc, 0, none⟩ = some (.int .i64 4) := HB.out.cell 0
  have a1 : w11.cell? ⟨gc, 1, none⟩ = some (.slice A 4 4) := HB.out.cell 1
  have a2 : w11.cell? ⟨gc, 2, none⟩ = some (.slice B 1 1) := HB.out.cell 2
  have q := HB.out.lt
  go_wp2_with fail
  have gl : Below w11.heap.size w11 (w11.alloc (.cells (([5, 6, 7, 16] : List Int).map vInt).toArray 3)) := by go_grown
  refine (knCheck4 A B (some ⟨w11.heap.size, 0, none⟩) _ (HX.out.up gl) (HP.out.up gl) (rdI_lit w11 [5, 6, 7, 16])).mono ?_
  rintro e w12 ⟨rfl, hb12⟩
  have hc12 := bvia gl hb12
  replace RA := Lib.hid (RA.out.up hc12)
  replace RP := Lib.hid (RP.out.up hc12)
  replace RS := Lib.hid (RS.out.up hc12)
  replace RR := Lib.hid (RdR.up RR.out hc12)
  replace HX := Lib.hid (HX.out.up hc12)
  replace HP := Lib.hid (HP.out.up hc12)
  replace HB := Lib.hid (HB.out.below hc12 HB.out.lt)
  have B12 := bvia B11 hc12
  clear hb12 hc12 gl a0 a1 a2 q
  go_wp2_with fail
  refine (shown13 _).mono ?_
  rintro e w13 ⟨rfl, hb13⟩
  go_wp2
  go_ret
  exact ⟨rfl, bvia B12 hb13⟩
end Go.Proofs.Ytnijfkidgndbdaa
