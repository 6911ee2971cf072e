/-
  Walk of the law ColoursShown.
-/
import Derived.Test.YtnijfkidgndbdaaSha
namespace Go.Proofs.Ytnijfkidgndbdaa
open Go.RowKit
set_option maxRecDepth 100000 in
set_option maxHeartbeats 4000000 in
theorem shownOf (t : Int) (A B D : Option Addr) (n c m d k e : Nat) (nn : Int) (xs ps : List Q4) (ds : List Int) (w : World) (hn : n ≤ 9223372036854775807) (hm : m ≤ 9223372036854775807) (hk : k ≤ 9223372036854775807) (hx : RdQ w w.heap.size A xs) (hp : RdQ w w.heap.size B ps) (hd : RdI w w.heap.size D ds)
    (hl : xs.length = n) (hl' : ps.length = m) (hlk : ds.length = k) (ht0 : -9223372036854775808 ≤ t) (_ : n ≤ c) :
    Calls Try.prog 9 #[vCloth t A n c B m d, .slice D k e, .int .i64 nn] w fun e w' => e = .returned (.bool true) ∧ Below w.heap.size w w' := by
  have HX := Lib.hid hx; clear hx
  have HP := Lib.hid hp; clear hp
  have HD := Lib.hid hd; clear hd
  have C1 := Lib.hid (fun (W : World) (hb : Below w.heap.size w W) => shows32 t A B n c m d nn xs ps W hn hm (HX.out.up hb) (HP.out.up hb) hl hl' ht0)
  have C2 := Lib.hid (fun (W : World) (hb : Below w.heap.size w W) => shows33 t A B n c m d nn xs ps W hn hm (HX.out.up hb) (HP.out.up hb) hl hl' ht0)
  have C3 := Lib.hid (fun (W : World) (hb : Below w.heap.size w W) => hidden31 t A B n c m d xs ps W hn hm (HX.out.up hb) (HP.out.up hb) hl hl' ht0)
  have C4 := Lib.hid (fun (W : World) (hb : Below w.heap.size w W) => hidden34 t A B n c m d xs ps W hn hm (HX.out.up hb) (HP.out.up hb) hl hl' ht0)
  have C5 := Lib.hid (fun (W : World) (hb : Below w.heap.size w W) => share35 t A B D n c m d k e xs ps ds W hn hm hk (HX.out.up hb) (HP.out.up hb) (HD.out.up hb) hl hl' hlk ht0)
  have C6 := Lib.hid (fun (W : World) (hb : Below w.heap.size w W) => share36 t A B D n c m d k e xs ps ds W hn hm hk (HX.out.up hb) (HP.out.up hb) (HD.out.up hb) hl hl' hlk ht0)
  have K0 : Has (w.alloc (.cells #[.int .i64 t, .slice A n c, .slice B m d] 25)) w.heap.size 25 [.int .i64 t, .slice A n c, .slice B m d] := Has.new rfl
  have B0 : Below w.heap.size w (w.alloc (.cells #[.int .i64 t, .slice A n c, .slice B m d] 25)) := by go_grown
  by_cases hfar : farB t n m = true
  · have CF := Lib.hid (far12 t A B n c m d (w.alloc (.cells #[.int .i64 t, .slice A n c, .slice B m d] 25)))
    rw [hfar] at CF
    go_enter Try.func9, Try.ntmps9
    go_wp2_with fail
    refine CF.out.mono ?_
    rintro e w1 ⟨rfl, hb1⟩
    have B1 := bvia B0 hb1
    go_wp2_with fail
    refine (shown13 _).mono ?_
    rintro e w2 ⟨rfl, hb2⟩
    go_wp2
    go_ret
    exact ⟨rfl, bvia B1 hb2⟩
  have CF := Lib.hid (far12 t A B n c m d (w.alloc (.cells #[.int .i64 t, .slice A n c, .slice B m d] 25)))
  rw [show farB t n m = false by simpa using hfar] at CF
  by_cases hlim : (100 : Int) < (k : Int)
  · have dl : decide ((100 : Int) < (k : Int)) = true := decide_eq_true hlim
    clear hlim
    go_enter Try.func9, Try.ntmps9
    go_wp2_with fail
    refine CF.out.mono ?_
    rintro e w1 ⟨rfl, hb1⟩
    have B1 := bvia B0 hb1
    go_wp2_with fail
    refine (shown13 _).mono ?_
    rintro e w2 ⟨rfl, hb2⟩
    go_wp2
    go_ret
    exact ⟨rfl, bvia B1 hb2⟩
  have dl : decide ((100 : Int) < (k : Int)) = false := decide_eq_false hlim
  clear hlim hfar
  go_enter Try.func9, Try.ntmps9
  go_wp2_with fail
  refine CF.out.mono ?_
  rintro e w1 ⟨rfl, hb1⟩
  have B1 := bvia B0 hb1
  have HB := Lib.hid (K0.below hb1 K0.lt)
  clear K0 hb1 CF B0
  have a0 : w1.cell? ⟨w.heap.size, 0, none⟩ = some (.int .i64 t) := HB.out.cell 0
  have a1 : w1.cell? ⟨w.heap.size, 1, none⟩ = some (.slice A n c) := HB.out.cell 1
  have a2 : w1.cell? ⟨w.heap.size, 2, none⟩ = some (.slice B m d) := HB.out.cell 2
  have q := HB.out.lt
  go_wp2_with fail
  refine (C1.out _ B1).mono ?_
  rintro e w2 ⟨A2, n2, c2, rfl, r2, l2, k2, k2', hb2⟩
  have B2 := bvia B1 hb2
  replace HB := Lib.hid (HB.out.below hb2 HB.out.lt)
  clear hb2 a0 a1 a2 q
  have HS := Lib.hid r2; clear r2
  have HSl := Lib.hid l2; clear l2
  have HSk : n2 ≤ 9223372036854775807 := Nat.le_trans k2 k2'
  clear k2 k2'
  have a0 : w2.cell? ⟨w.heap.size, 0, none⟩ = some (.int .i64 t) := HB.out.cell 0
  have a1 : w2.cell? ⟨w.heap.size, 1, none⟩ = some (.slice A n c) := HB.out.cell 1
  have a2 : w2.cell? ⟨w.heap.size, 2, none⟩ = some (.slice B m d) := HB.out.cell 2
  have q := HB.out.lt
  go_wp2_with fail
  refine ((C2.out _ B2).mono fun _ _ h => RetOE.ie h).mono ?_
  rintro e w3 ⟨A3, n3, c3, rfl, r3, l3, k3, k3', hb3⟩
  have B3 := bvia B2 hb3
  replace HB := Lib.hid (HB.out.below hb3 HB.out.lt)
  replace HS := Lib.hid (HS.out.up hb3)
  clear hb3 a0 a1 a2 q
  have HT := Lib.hid r3; clear r3
  have HTl := Lib.hid l3; clear l3
  have HTk : n3 ≤ 9223372036854775807 := Nat.le_trans k3 k3'
  clear k3 k3'
  have J1 := Lib.hid (ints18 A2 A3 n2 n3 c2 c3 _ _ w3 HSk HTk HS.out HT.out HSl.out HTl.out)
  simp only [beq_self_eq_true] at J1
  have a0 : w3.cell? ⟨w.heap.size, 0, none⟩ = some (.int .i64 t) := HB.out.cell 0
  have a1 : w3.cell? ⟨w.heap.size, 1, none⟩ = some (.slice A n c) := HB.out.cell 1
  have a2 : w3.cell? ⟨w.heap.size, 2, none⟩ = some (.slice B m d) := HB.out.cell 2
  have q := HB.out.lt
  go_wp2_with fail
  refine (J1.out).mono ?_
  rintro e w4 ⟨rfl, hb4⟩
  have B4 := bvia B3 hb4
  replace HB := Lib.hid (HB.out.below hb4 HB.out.lt)
  replace HS := Lib.hid (HS.out.up hb4)
  replace HT := Lib.hid (HT.out.up hb4)
  clear hb4 a0 a1 a2 q
  clear J1
  have a0 : w4.cell? ⟨w.heap.size, 0, none⟩ = some (.int .i64 t) := HB.out.cell 0
  have a1 : w4.cell? ⟨w.heap.size, 1, none⟩ = some (.slice A n c) := HB.out.cell 1
  have a2 : w4.cell? ⟨w.heap.size, 2, none⟩ = some (.slice B m d) := HB.out.cell 2
  have q := HB.out.lt
  go_wp2_with fail
  refine (C3.out _ B4).mono ?_
  rintro e w5 ⟨A5, n5, c5, rfl, r5, l5, k5, k5', hb5⟩
  have B5 := bvia B4 hb5
  replace HB := Lib.hid (HB.out.below hb5 HB.out.lt)
  replace HS := Lib.hid (HS.out.up hb5)
  replace HT := Lib.hid (HT.out.up hb5)
  clear hb5 a0 a1 a2 q
  have HU := Lib.hid r5; clear r5
  have HUl := Lib.hid l5; clear l5
  have HUk : n5 ≤ 9223372036854775807 := Nat.le_trans k5 k5'
  clear k5 k5'
  have a0 : w5.cell? ⟨w.heap.size, 0, none⟩ = some (.int .i64 t) := HB.out.cell 0
  have a1 : w5.cell? ⟨w.heap.size, 1, none⟩ = some (.slice A n c) := HB.out.cell 1
  have a2 : w5.cell? ⟨w.heap.size, 2, none⟩ = some (.slice B m d) := HB.out.cell 2
  have q := HB.out.lt
  go_wp2_with fail
  refine (C4.out _ B5).mono ?_
  rintro e w6 ⟨A6, n6, c6, rfl, r6, l6, k6, k6', hb6⟩
  have B6 := bvia B5 hb6
  replace HB := Lib.hid (HB.out.below hb6 HB.out.lt)
  replace HS := Lib.hid (HS.out.up hb6)
  replace HT := Lib.hid (HT.out.up hb6)
  replace HU := Lib.hid (HU.out.up hb6)
  clear hb6 a0 a1 a2 q
  have HV := Lib.hid r6; clear r6
  have HVl := Lib.hid l6; clear l6
  have HVk : n6 ≤ 9223372036854775807 := Nat.le_trans k6 k6'
  clear k6 k6'
  have a0 : w6.cell? ⟨w.heap.size, 0, none⟩ = some (.int .i64 t) := HB.out.cell 0
  have a1 : w6.cell? ⟨w.heap.size, 1, none⟩ = some (.slice A n c) := HB.out.cell 1
  have a2 : w6.cell? ⟨w.heap.size, 2, none⟩ = some (.slice B m d) := HB.out.cell 2
  have q := HB.out.lt
  go_wp2_with fail
  refine (C5.out _ B6).mono ?_
  rintro e w7 ⟨A7, n7, c7, rfl, r7, l7, k7, k7', hb7⟩
  have B7 := bvia B6 hb7
  replace HB := Lib.hid (HB.out.below hb7 HB.out.lt)
  replace HS := Lib.hid (HS.out.up hb7)
  replace HT := Lib.hid (HT.out.up hb7)
  replace HU := Lib.hid (HU.out.up hb7)
  replace HV := Lib.hid (HV.out.up hb7)
  clear hb7 a0 a1 a2 q
  have HY := Lib.hid r7; clear r7
  have HYl := Lib.hid l7; clear l7
  have HYk : n7 ≤ 9223372036854775807 := Nat.le_trans k7 k7'
  clear k7 k7'
  have a0 : w7.cell? ⟨w.heap.size, 0, none⟩ = some (.int .i64 t) := HB.out.cell 0
  have a1 : w7.cell? ⟨w.heap.size, 1, none⟩ = some (.slice A n c) := HB.out.cell 1
  have a2 : w7.cell? ⟨w.heap.size, 2, none⟩ = some (.slice B m d) := HB.out.cell 2
  have q := HB.out.lt
  go_wp2_with fail
  refine (C6.out _ B7).mono ?_
  rintro e w8 ⟨A8, n8, c8, rfl, r8, l8, k8, k8', hb8⟩
  have B8 := bvia B7 hb8
  replace HB := Lib.hid (HB.out.below hb8 HB.out.lt)
  replace HS := Lib.hid (HS.out.up hb8)
  replace HT := Lib.hid (HT.out.up hb8)
  replace HU := Lib.hid (HU.out.up hb8)
  replace HV := Lib.hid (HV.out.up hb8)
  replace HY := Lib.hid (HY.out.up hb8)
  clear hb8 a0 a1 a2 q
  have HZ := Lib.hid r8; clear r8
  have HZl := Lib.hid l8; clear l8
  have HZk : n8 ≤ 9223372036854775807 := Nat.le_trans k8 k8'
  clear k8 k8'
  have J1 := Lib.hid (ints18 A5 A6 n5 n6 c5 c6 _ _ w8 HUk HVk HU.out HV.out HUl.out HVl.out)
  simp only [beq_self_eq_true] at J1
  have a0 : w8.cell? ⟨w.heap.size, 0, none⟩ = some (.int .i64 t) := HB.out.cell 0
  have a1 : w8.cell? ⟨w.heap.size, 1, none⟩ = some (.slice A n c) := HB.out.cell 1
  have a2 : w8.cell? ⟨w.heap.size, 2, none⟩ = some (.slice B m d) := HB.out.cell 2
  have q := HB.out.lt
  go_wp2_with fail
  refine (J1.out).mono ?_
  rintro e w9 ⟨rfl, hb9⟩
  have B9 := bvia B8 hb9
  replace HB := Lib.hid (HB.out.below hb9 HB.out.lt)
  replace HS := Lib.hid (HS.out.up hb9)
  replace HT := Lib.hid (HT.out.up hb9)
  replace HU := Lib.hid (HU.out.up hb9)
  replace HV := Lib.hid (HV.out.up hb9)
  replace HY := Lib.hid (HY.out.up hb9)
  replace HZ := Lib.hid (HZ.out.up hb9)
  clear hb9 a0 a1 a2 q
  clear J1
  have J1 := Lib.hid (ints18 A7 A8 n7 n8 c7 c8 _ _ w9 HYk HZk HY.out HZ.out HYl.out HZl.out)
  simp only [beq_self_eq_true] at J1
  have a0 : w9.cell? ⟨w.heap.size, 0, none⟩ = some (.int .i64 t) := HB.out.cell 0
  have a1 : w9.cell? ⟨w.heap.size, 1, none⟩ = some (.slice A n c) := HB.out.cell 1
  have a2 : w9.cell? ⟨w.heap.size, 2, none⟩ = some (.slice B m d) := HB.out.cell 2
  have q := HB.out.lt
  go_wp2_with fail
  refine (J1.out).mono ?_
  rintro e w10 ⟨rfl, hb10⟩
  have B10 := bvia B9 hb10
  replace HB := Lib.hid (HB.out.below hb10 HB.out.lt)
  replace HS := Lib.hid (HS.out.up hb10)
  replace HT := Lib.hid (HT.out.up hb10)
  replace HU := Lib.hid (HU.out.up hb10)
  replace HV := Lib.hid (HV.out.up hb10)
  replace HY := Lib.hid (HY.out.up hb10)
  replace HZ := Lib.hid (HZ.out.up hb10)
  clear hb10 a0 a1 a2 q
  clear J1
  have a0 : w10.cell? ⟨w.heap.size, 0, none⟩ = some (.int .i64 t) := HB.out.cell 0
  have a1 : w10.cell? ⟨w.heap.size, 1, none⟩ = some (.slice A n c) := HB.out.cell 1
  have a2 : w10.cell? ⟨w.heap.size, 2, none⟩ = some (.slice B m d) := HB.out.cell 2
  have q := HB.out.lt
  go_wp2_with fail
  refine (shown13 _).mono ?_
  rintro e w11 ⟨rfl, hb11⟩
  have B11 := bvia B10 hb11
  replace HB := Lib.hid (HB.out.below hb11 HB.out.lt)
  replace HS := Lib.hid (HS.out.up hb11)
  replace HT := Lib.hid (HT.out.up hb11)
  replace HU := Lib.hid (HU.out.up hb11)
  replace HV := Lib.hid (HV.out.up hb11)
  replace HY := Lib.hid (HY.out.up hb11)
  replace HZ := Lib.hid (HZ.out.up hb11)
  clear hb11 a0 a1 a2 q
  go_wp2
  go_ret
  exact ⟨rfl, B11⟩
end Go.Proofs.Ytnijfkidgndbdaa
