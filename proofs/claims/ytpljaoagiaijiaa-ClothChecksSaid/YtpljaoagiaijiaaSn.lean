/-
  Contract of the law of chapter 17: shown: the example comes out as the document says.
-/
import Derived.Test.YtpljaoagiaijiaaMk3
import Derived.Test.YtpljaoagiaijiaaSme
import Derived.Test.YtpljaoagiaijiaaLth
namespace Go.Proofs.Ytpljaoagiaijiaa
open Go.RowKit
def exX : List Q4 := [⟨0, 1, 1, 2⟩, ⟨0, 0, 2, 0⟩, ⟨0, 2, 3, 1⟩, ⟨0, 1, 0, 3⟩]
def exP : List Q4 := [⟨0, 1, 0, 3⟩]
theorem ex_chk : ckE 4 exX exP = 0 := by decide +kernel
theorem ex_ends : endsR 4 exX exP = [2, 3, 0, 1] := by decide +kernel
theorem ex_ask : askE 4 exX exP [0] = 0 := by decide +kernel
theorem ex_of : ofR 4 exX exP [0] = [1, 3] := by decide +kernel
theorem ex_sheet : schk 2 [⟨1, 0, ⟨#[67, 84, 80, 67]⟩⟩] = 0 := by decide +kernel
theorem rdQ_cells {w : World} {g : Nat} {t : TypeId} {xs : List Q4} (h : Has w g t (qsC xs)) : RdQ w w.heap.size (some ⟨g, 0, none⟩) xs := fun k x hx => by
  obtain ⟨e0, e1, e2, e3⟩ := qsC_get hx
  refine ⟨g, 0, rfl, h.lt, ?_, ?_, ?_, ?_⟩ <;> rw [Nat.zero_add, h.cell] <;> assumption
theorem exMake (A : Option Addr) (w : World) (hw : RdW w w.heap.size A [⟨1, 0, ⟨#[67, 84, 80, 67]⟩⟩]) : Calls Try.prog 11 #[.agg #[.int .i64 2, .slice A 1 1]] w (RetCE 4 exX exP 0 w) := by
  have h := make11 2 A 1 1 _ w (by omega) hw rfl ex_sheet
  rw [mk_example.1, mk_example.2] at h
  exact h
section
variable (A B : Option Addr) (w : World) (hx : RdQ w w.heap.size A exX) (hp : RdQ w w.heap.size B exP)
include hx hp
theorem exEnds : Calls Try.prog 18 #[vCloth 4 A 4 4 B 1 1] w (RetIE [2, 3, 0, 1] 0 w) := by
  have h := ends18 4 A B 4 4 1 1 exX exP w (by omega) (by omega) hx hp rfl rfl (by omega)
  rwa [ex_chk, ex_ends] at h
theorem exFollow : Calls Try.prog 23 #[vCloth 4 A 4 4 B 1 1, .int .i64 0] w (RetIE [1, 3] 0 w) := by
  have h := follow23 4 A B 4 4 1 1 0 exX exP w (by omega) (by omega) hx hp rfl rfl (by omega)
  rwa [ex_ask, ex_of] at h
end
theorem rdI_lit (w : World) (l : List Int) : RdI (w.alloc (.cells (l.map vInt).toArray 3)) (w.alloc (.cells (l.map vInt).toArray 3)).heap.size (some ⟨w.heap.size, 0, none⟩) l := rdI_hasC (Has.new rfl)
set_option maxRecDepth 100000 in
set_option maxHeartbeats 2000000 in
theorem shown10 : ShownSays := by
  intro w
  go_enter Try.func10, Try.ntmps10
  go_wp2_with fail
  refine (exMake _ _ ((rdW_one w 1 0 ⟨#[67, 84, 80, 67]⟩ 52).up (by go_grown))).mono ?_
  rintro e w1 ⟨A1, n1, c1, B1, m1, d1, rfl, x1, p1, ln, lm, _, _, _, _, hb1⟩
  obtain rfl : 4 = n1 := ln
  obtain rfl : 1 = m1 := lm
  have L1 : Below w.heap.size w w1 := bvia (by go_grown) hb1
  have HX := Lib.hid x1; have HP := Lib.hid p1; clear x1 p1 hb1
  obtain ⟨W2, hW2⟩ : ∃ W2, W2 = (((w1.alloc (.cells #[.int .i64 4, .slice A1 4 c1, .slice B1 1 d1] 30)).alloc (.cells #[.int .i64 0, .int .i64 1, .int .i64 1, .int .i64 2, .int .i64 0, .int .i64 0, .int .i64 2, .int .i64 0, .int .i64 0, .int .i64 2, .int .i64 3, .int .i64 1, .int .i64 0, .int .i64 1, .int .i64 0, .int .i64 3] 70)).alloc (.cells #[.int .i64 0, .int .i64 1, .int .i64 0, .int .i64 3] 72)).alloc (.cells #[.int .i64 4, .slice (some ⟨w1.heap.size + 1, 0, none⟩) 4 4, .slice (some ⟨w1.heap.size + 1 + 1, 0, none⟩) 1 1] 30) := ⟨_, rfl⟩
  have hb2 : Below w1.heap.size w1 W2 := by rw [hW2]; go_grown
  have KC : Has W2 w1.heap.size 30 [.int .i64 4, .slice A1 4 c1, .slice B1 1 d1] := by rw [hW2]; exact (((Has.new rfl).alloc _).alloc _).alloc _
  have KX : Has W2 (w1.heap.size + 1) 70 (qsC exX) := by rw [hW2]; exact ((Has.new2 rfl).alloc _).alloc _
  have KP : Has W2 (w1.heap.size + 1 + 1) 72 (qsC exP) := by
    rw [hW2]
    refine Has.alloc ?_ _
    have := Has.new2 (w := w1.alloc (.cells #[.int .i64 4, .slice A1 4 c1, .slice B1 1 d1] 30)) (o := .cells #[.int .i64 0, .int .i64 1, .int .i64 1, .int .i64 2, .int .i64 0, .int .i64 0, .int .i64 2, .int .i64 0, .int .i64 0, .int .i64 2, .int .i64 3, .int .i64 1, .int .i64 0, .int .i64 1, .int .i64 0, .int .i64 3] 70) (arr := #[.int .i64 0, .int .i64 1, .int .i64 0, .int .i64 3]) (t := 72) (cs := qsC exP) rfl
    simpa using this
  have KW : Has W2 (w1.heap.size + 1 + 1 + 1) 30 [.int .i64 4, .slice (some ⟨w1.heap.size + 1, 0, none⟩) 4 4, .slice (some ⟨w1.heap.size + 1 + 1, 0, none⟩) 1 1] := by
    rw [hW2]
    have := Has.new (w := ((w1.alloc (.cells #[.int .i64 4, .slice A1 4 c1, .slice B1 1 d1] 30)).alloc (.cells #[.int .i64 0, .int .i64 1, .int .i64 1, .int .i64 2, .int .i64 0, .int .i64 0, .int .i64 2, .int .i64 0, .int .i64 0, .int .i64 2, .int .i64 3, .int .i64 1, .int .i64 0, .int .i64 1, .int .i64 0, .int .i64 3] 70)).alloc (.cells #[.int .i64 0, .int .i64 1, .int .i64 0, .int .i64 3] 72)) (arr := #[.int .i64 4, .slice (some ⟨w1.heap.size + 1, 0, none⟩) 4 4, .slice (some ⟨w1.heap.size + 1 + 1, 0, none⟩) 1 1]) (t := 30) (cs := [.int .i64 4, .slice (some ⟨w1.heap.size + 1, 0, none⟩) 4 4, .slice (some ⟨w1.heap.size + 1 + 1, 0, none⟩) 1 1]) rfl
    simpa using this
  have HX1 := Lib.hid (HX.out.up hb2)
  have HP1 := Lib.hid (HP.out.up hb2)
  have HX2 := Lib.hid (rdQ_cells KX)
  have HP2 := Lib.hid (rdQ_cells KP)
  have L2 := bvia L1 hb2
  clear HX HP KX KP
  go_wp2_with fail
  rw [← hW2]
  obtain ⟨g0, hg0⟩ : ∃ g, g = w1.heap.size := ⟨_, rfl⟩
  rw [← hg0] at KC KW HX2 HP2 ⊢
  clear hW2 hb2 hg0
  refine (exEnds _ _ W2 HX2.out HP2.out).mono ?_
  rintro e w3 ⟨A3, n3, c3, rfl, r3, l3, _, _, hb3⟩
  obtain rfl : 4 = n3 := l3
  have L3 := bvia L2 hb3
  have HX1 := Lib.hid (HX1.out.up hb3); have HP1 := Lib.hid (HP1.out.up hb3); have HX2 := Lib.hid (HX2.out.up hb3); have HP2 := Lib.hid (HP2.out.up hb3); have HR3 := Lib.hid r3
  replace KC := KC.below hb3 KC.lt
  replace KW := KW.below hb3 KW.lt
  have k0 : w3.cell? ⟨g0 + 1 + 1 + 1, 0, none⟩ = some (.int .i64 4) := KW.cell 0
  have k1 : w3.cell? ⟨g0 + 1 + 1 + 1, 1, none⟩ = some (.slice (some ⟨g0 + 1, 0, none⟩) 4 4) := KW.cell 1
  have k2 : w3.cell? ⟨g0 + 1 + 1 + 1, 2, none⟩ = some (.slice (some ⟨g0 + 1 + 1, 0, none⟩) 1 1) := KW.cell 2
  have qk := KW.lt
  clear r3 hb3 L1 L2
  go_wp2_with fail
  refine (exFollow _ _ w3 HX2.out HP2.out).mono ?_
  rintro e w4 ⟨A4, n4, c4, rfl, r4, l4, _, _, hb4⟩
  obtain rfl : 2 = n4 := l4
  have L4 := bvia L3 hb4
  have HX1 := Lib.hid (HX1.out.up hb4); have HP1 := Lib.hid (HP1.out.up hb4); have HX2 := Lib.hid (HX2.out.up hb4); have HP2 := Lib.hid (HP2.out.up hb4); have HR3 := Lib.hid (HR3.out.up hb4); have HR4 := Lib.hid r4
  replace KC := KC.below hb4 KC.lt
  replace KW := KW.below hb4 KW.lt
  clear k0 k1 k2 qk r4 hb4 L3
  have k0 : w4.cell? ⟨g0 + 1 + 1 + 1, 0, none⟩ = some (.int .i64 4) := KW.cell 0
  have k1 : w4.cell? ⟨g0 + 1 + 1 + 1, 1, none⟩ = some (.slice (some ⟨g0 + 1, 0, none⟩) 4 4) := KW.cell 1
  have k2 : w4.cell? ⟨g0 + 1 + 1 + 1, 2, none⟩ = some (.slice (some ⟨g0 + 1 + 1, 0, none⟩) 1 1) := KW.cell 2
  have m0 : w4.cell? ⟨g0, 0, none⟩ = some (.int .i64 4) := KC.cell 0
  have m1 : w4.cell? ⟨g0, 1, none⟩ = some (.slice A1 4 c1) := KC.cell 1
  have m2 : w4.cell? ⟨g0, 2, none⟩ = some (.slice B1 1 d1) := KC.cell 2
  have qk := KW.lt
  clear KC KW
  go_wp2_with fail
  refine (same13 4 A1 B1 _ _ 4 c1 1 d1 4 1 exX exP w4 (by omega) (by omega) HX1.out HX2.out HP1.out HP2.out rfl rfl).mono ?_
  rintro e w5 ⟨rfl, hb5⟩
  have L5 := bvia L4 hb5
  have HR3 := Lib.hid (HR3.out.up hb5); have HR4 := Lib.hid (HR4.out.up hb5)
  clear k0 k1 k2 m0 m1 m2 qk L4 HX1 HX2 HP1 HP2 hb5
  have L6 := bvia L5 (show Below w5.heap.size w5 (w5.alloc (.cells (([2, 3, 0, 1] : List Int).map vInt).toArray 3)) by go_grown)
  have J6 := sameInts04 A3 (some ⟨w5.heap.size, 0, none⟩) 4 4 c3 4 [2, 3, 0, 1] [2, 3, 0, 1] _ (by omega) (by omega) (HR3.out.up (show Below w5.heap.size w5 _ by go_grown)) (rdI_lit w5 [2, 3, 0, 1]) rfl rfl
  have J6' := Lib.hid J6
  clear J6
  go_wp2_with fail
  refine J6'.out.mono ?_
  rintro e w6 ⟨rfl, hb6⟩
  have L7 := bvia L6 hb6
  have HR4 := Lib.hid (HR4.out.up (bvia (show Below w5.heap.size w5 (w5.alloc (.cells (([2, 3, 0, 1] : List Int).map vInt).toArray 3)) by go_grown) hb6))
  clear HR3 hb6 J6' L5 L6
  have J8 := Lib.hid (sameInts04 A4 (some ⟨w6.heap.size, 0, none⟩) 2 2 c4 2 [1, 3] [1, 3] _ (by omega) (by omega) (HR4.out.up (show Below w6.heap.size w6 _ by go_grown)) (rdI_lit w6 [1, 3]) rfl rfl)
  have L8 := bvia L7 (show Below w6.heap.size w6 (w6.alloc (.cells (([1, 3] : List Int).map vInt).toArray 3)) by go_grown)
  have e1 : (([2, 3, 0, 1] : List Int) == [2, 3, 0, 1]) = true := by decide
  have e2 : (([1, 3] : List Int) == [1, 3]) = true := by decide
  go_wp2_with fail
  refine J8.out.mono ?_
  rintro e w9 ⟨rfl, hb9⟩
  have L9 := bvia L8 hb9
  clear J8 hb9
  go_wp2
  go_ret
  exact ⟨rfl, L9⟩
end Go.Proofs.Ytpljaoagiaijiaa
