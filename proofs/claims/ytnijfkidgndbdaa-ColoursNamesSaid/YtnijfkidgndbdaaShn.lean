/-
  Contract of the law of chapter 21: shown: the examples come out as the document says.
-/
import Derived.Test.YtnijfkidgndbdaaExa
namespace Go.Proofs.Ytnijfkidgndbdaa
open Go.RowKit
theorem ex_chk : chkE 4 exX exP [5, 6, 7, 8] = 0 := by decide +kernel
theorem ex_seen : seenR 4 exX exP [5, 6, 7, 8] = [6, 7, 8, 5] := by decide +kernel
theorem ex_back : backR 4 exX exP [5, 6, 7, 8] = [7, 5, 6, 8] := by decide +kernel
theorem ex_lineE : lineE 4 exX exP [5, 6, 7, 8] 2 = 0 := by decide +kernel
theorem ex_line : lineR 4 exX exP [5, 6, 7, 8] 2 = [7, 5, 6, 8] := by decide +kernel
theorem ex_leastE : leastE 4 exX exP [6, 7, 8, 5] = 0 := by decide +kernel
theorem ex_least : leastR 4 exX exP [6, 7, 8, 5] = [5, 6, 7, 8] := by decide +kernel
section
variable (A B D : Option Addr) (w : World) (hx : RdQ w w.heap.size A exX) (hp : RdQ w w.heap.size B exP)
include hx hp
theorem exSeen (hd : RdI w w.heap.size D [5, 6, 7, 8]) : Calls Try.prog 14 #[vCloth 4 A 4 4 B 1 1, .slice D 4 4] w (RetIE [6, 7, 8, 5] 0 w) := by
  have h := seen14 4 A B D 4 4 1 1 4 4 exX exP [5, 6, 7, 8] w (by omega) (by omega) (by omega) hx hp hd rfl rfl rfl (by omega)
  rwa [ex_chk, ex_seen] at h
theorem exBack (hd : RdI w w.heap.size D [5, 6, 7, 8]) : Calls Try.prog 19 #[vCloth 4 A 4 4 B 1 1, .slice D 4 4] w (RetIE [7, 5, 6, 8] 0 w) := by
  have h := back19 4 A B D 4 4 1 1 4 4 exX exP [5, 6, 7, 8] w (by omega) (by omega) (by omega) hx hp hd rfl rfl rfl (by omega)
  rwa [ex_chk, ex_back] at h
theorem exLine (hd : RdI w w.heap.size D [5, 6, 7, 8]) : Calls Try.prog 21 #[vCloth 4 A 4 4 B 1 1, .slice D 4 4, .int .i64 2] w (RetIE [7, 5, 6, 8] 0 w) := by
  have h := line21 4 A B D 4 4 1 1 4 4 2 exX exP [5, 6, 7, 8] w (by omega) (by omega) (by omega) hx hp hd rfl rfl rfl (by omega) (by omega)
  rwa [ex_lineE, ex_line] at h
theorem exLeast (hd : RdI w w.heap.size D [6, 7, 8, 5]) : Calls Try.prog 23 #[vCloth 4 A 4 4 B 1 1, .slice D 4 4] w (RetIE [5, 6, 7, 8] 0 w) := by
  have h := least23 4 A B D 4 4 1 1 4 4 exX exP [6, 7, 8, 5] w (by omega) (by omega) (by omega) hx hp hd rfl rfl rfl (by omega)
  rwa [ex_leastE, ex_least] at h
end
theorem rdI_lit (w : World) (l : List Int) : RdI (w.alloc (.cells (l.map vInt).toArray 3)) (w.alloc (.cells (l.map vInt).toArray 3)).heap.size (some ⟨w.heap.size, 0, none⟩) l := rdI_has (rest := []) (by rw [List.append_nil]; exact Has.new rfl)
set_option maxRecDepth 100000 in
set_option maxHeartbeats 2000000 in
theorem shown13 (w : World) : Calls Try.prog 13 #[] w fun e w' => e = .returned (.bool true) ∧ Below w.heap.size w w' := by
  have D0 := rdI_lit w [5, 6, 7, 8]
  go_enter Try.func13, Try.ntmps13
  go_wp2_with fail
  refine (example39 _).mono ?_
  rintro e w1 ⟨A1, B1, rfl, x1, p1, hb1⟩
  have L1 : Below w.heap.size w w1 := bvia (by go_grown) hb1
  have D1 := Rd1.up D0 hb1
  have HX := Lib.hid x1; have HP := Lib.hid p1; have HD := Lib.hid D1; clear x1 p1 D1 D0 hb1
  go_wp2_with fail
  refine (exSeen A1 B1 _ _ HX.out HP.out HD.out).mono ?_
  rintro e w2 ⟨A2, n2, c2, rfl, r2, l2, k2, k2', hb2⟩
  obtain rfl : 4 = n2 := l2
  have L2 := bvia L1 hb2
  have D2 := HD.out.up hb2
  have HR2 := Lib.hid r2; have HD2 := Lib.hid D2; clear r2 D2 HD HX HP hb2
  go_wp2_with fail
  refine (example39 _).mono ?_
  rintro e w3 ⟨A3, B3, rfl, x3, p3, hb3⟩
  have L3 := bvia L2 hb3
  have HR3 := Lib.hid (HR2.out.up hb3); have HD3 := Lib.hid (HD2.out.up hb3)
  have HX := Lib.hid x3; have HP := Lib.hid p3; clear x3 p3 hb3 HR2 HD2
  go_wp2_with fail
  refine (exBack A3 B3 _ _ HX.out HP.out HD3.out).mono ?_
  rintro e w4 ⟨A4, n4, c4, rfl, r4, l4, k4, k4', hb4⟩
  obtain rfl : 4 = n4 := l4
  have L4 := bvia L3 hb4
  have HR4 := Lib.hid (HR3.out.up hb4); have HD4 := Lib.hid (HD3.out.up hb4); have HS4 := Lib.hid r4
  clear r4 hb4 HR3 HD3 HX HP
  go_wp2_with fail
  refine (example39 _).mono ?_
  rintro e w5 ⟨A5, B5, rfl, x5, p5, hb5⟩
  have L5 := bvia L4 hb5
  have HR5 := Lib.hid (HR4.out.up hb5); have HD5 := Lib.hid (HD4.out.up hb5); have HS5 := Lib.hid (HS4.out.up hb5)
  have HX := Lib.hid x5; have HP := Lib.hid p5; clear x5 p5 hb5 HR4 HD4 HS4
  go_wp2_with fail
  refine (exLine A5 B5 _ _ HX.out HP.out HD5.out).mono ?_
  rintro e w6 ⟨A6, n6, c6, rfl, r6, l6, k6, k6', hb6⟩
  obtain rfl : 4 = n6 := l6
  have L6 := bvia L5 hb6
  have HR6 := Lib.hid (HR5.out.up hb6); have HD6 := Lib.hid (HD5.out.up hb6); have HS6 := Lib.hid (HS5.out.up hb6); have HT6 := Lib.hid r6
  clear r6 hb6 HR5 HD5 HS5 HX HP
  go_wp2_with fail
  refine (example39 _).mono ?_
  rintro e w7 ⟨A7, B7, rfl, x7, p7, hb7⟩
  have L7 := bvia L6 hb7
  have HR7 := Lib.hid (HR6.out.up hb7); have HD7 := Lib.hid (HD6.out.up hb7); have HS7 := Lib.hid (HS6.out.up hb7); have HT7 := Lib.hid (HT6.out.up hb7)
  have HX := Lib.hid x7; have HP := Lib.hid p7; clear x7 p7 hb7 HR6 HD6 HS6 HT6
  have gl : Below w7.heap.size w7 (w7.alloc (.cells (([6, 7, 8, 5] : List Int).map vInt).toArray 3)) := by go_grown
  have U7 := Lib.hid (rdI_lit w7 [6, 7, 8, 5])
  have HX7 := Lib.hid (HX.out.up gl); have HP7 := Lib.hid (HP.out.up gl); have HGL := Lib.hid gl
  clear gl
  go_wp2_with fail
  refine (exLeast A7 B7 _ _ HX7.out HP7.out U7.out).mono ?_
  rintro e w8 ⟨A8, n8, c8, rfl, r8, l8, k8, k8', hb8⟩
  obtain rfl : 4 = n8 := l8
  have G8 := bvia HGL.out hb8
  have L8 := bvia L7 G8
  have HR8 := Lib.hid (HR7.out.up G8); have HD8 := Lib.hid (HD7.out.up G8); have HS8 := Lib.hid (HS7.out.up G8); have HT8 := Lib.hid (HT7.out.up G8); have HU8 := Lib.hid r8
  clear r8 G8 hb8 HR7 HD7 HS7 HT7 HX HP HX7 HP7 U7 HGL
  have gl : Below w8.heap.size w8 (w8.alloc (.cells (([6, 7, 8, 5] : List Int).map vInt).toArray 3)) := by go_grown
  have J1 := Lib.hid (ints18 A2 (some ⟨w8.heap.size, 0, none⟩) 4 4 c2 4 [6, 7, 8, 5] [6, 7, 8, 5] _ (by omega) (by omega) (HR8.out.up gl) (rdI_lit w8 [6, 7, 8, 5]) rfl rfl)
  have HGL := Lib.hid gl; clear gl
  go_wp2_with fail
  refine J1.out.mono ?_
  rintro e w9 ⟨rfl, hb9⟩
  have G9 := bvia HGL.out hb9
  have L9 := bvia L8 G9
  have HD9 := Lib.hid (HD8.out.up G9); have HS9 := Lib.hid (HS8.out.up G9); have HT9 := Lib.hid (HT8.out.up G9); have HU9 := Lib.hid (HU8.out.up G9)
  clear hb9 G9 HGL J1 HR8 HD8 HS8 HT8 HU8
  have gl : Below w9.heap.size w9 (w9.alloc (.cells (([7, 5, 6, 8] : List Int).map vInt).toArray 3)) := by go_grown
  have J1 := Lib.hid (ints18 A4 (some ⟨w9.heap.size, 0, none⟩) 4 4 c4 4 [7, 5, 6, 8] [7, 5, 6, 8] _ (by omega) (by omega) (HS9.out.up gl) (rdI_lit w9 [7, 5, 6, 8]) rfl rfl)
  have HGL := Lib.hid gl; clear gl
  go_wp2_with fail
  refine J1.out.mono ?_
  rintro e w10 ⟨rfl, hb10⟩
  have G10 := bvia HGL.out hb10
  have L10 := bvia L9 G10
  have HD10 := Lib.hid (HD9.out.up G10); have HT10 := Lib.hid (HT9.out.up G10); have HU10 := Lib.hid (HU9.out.up G10)
  clear hb10 G10 HGL J1 HD9 HS9 HT9 HU9
  have gl : Below w10.heap.size w10 (w10.alloc (.cells (([7, 5, 6, 8] : List Int).map vInt).toArray 3)) := by go_grown
  have J1 := Lib.hid (ints18 A6 (some ⟨w10.heap.size, 0, none⟩) 4 4 c6 4 [7, 5, 6, 8] [7, 5, 6, 8] _ (by omega) (by omega) (HT10.out.up gl) (rdI_lit w10 [7, 5, 6, 8]) rfl rfl)
  have HGL := Lib.hid gl; clear gl
  go_wp2_with fail
  refine J1.out.mono ?_
  rintro e w11 ⟨rfl, hb11⟩
  have G11 := bvia HGL.out hb11
  have L11 := bvia L10 G11
  have HD11 := Lib.hid (HD10.out.up G11); have HU11 := Lib.hid (HU10.out.up G11)
  clear hb11 G11 HGL J1 HD10 HT10 HU10
  have J1 := Lib.hid (ints18 A8 (some ⟨w.heap.size, 0, none⟩) 4 4 c8 4 [5, 6, 7, 8] [5, 6, 7, 8] _ (by omega) (by omega) HU11.out HD11.out rfl rfl)
  go_wp2_with fail
  refine J1.out.mono ?_
  rintro e w12 ⟨rfl, hb12⟩
  have L12 := bvia L11 hb12
  clear hb12 J1
  go_wp2
  go_ret
  exact ⟨rfl, L12⟩
end Go.Proofs.Ytnijfkidgndbdaa
