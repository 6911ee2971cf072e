/-
  Walk of the law ColoursLeast.
-/
import Derived.Test.YtnijfkidgndbdaaShn
namespace Go.Proofs.Ytnijfkidgndbdaa
open Go.RowKit
set_option maxRecDepth 100000 in
set_option maxHeartbeats 4000000 in
theorem leastOf (t : Int) (A B D : Option Addr) (n c m d k e : Nat) (xs ps : List Q4) (ds : List Int) (w : World) (hn : n ≤ 9223372036854775807) (hm : m ≤ 9223372036854775807) (hk : k ≤ 9223372036854775807) (hx : RdQ w w.heap.size A xs) (hp : RdQ w w.heap.size B ps) (hd : RdI w w.heap.size D ds)
    (hl : xs.length = n) (hl' : ps.length = m) (hlk : ds.length = k) (ht0 : -9223372036854775808 ≤ t) (_ : n ≤ c) :
    Calls Try.prog 4 #[vCloth t A n c B m d, .slice D k e] w fun e w' => e = .returned (.bool true) ∧ Below w.heap.size w w' := by
  have HX := Lib.hid hx; clear hx
  have HP := Lib.hid hp; clear hp
  have HD := Lib.hid hd; clear hd
  have C1 := Lib.hid (fun (W : World) (hb : Below w.heap.size w W) => least23 t A B D n c m d k e xs ps ds W hn hm hk (HX.out.up hb) (HP.out.up hb) (HD.out.up hb) hl hl' hlk ht0)
  have C2 := Lib.hid (fun (W : World) (hb : Below w.heap.size w W) => least24 t A B D n c m d k e xs ps ds W hn hm hk (HX.out.up hb) (HP.out.up hb) (HD.out.up hb) hl hl' hlk ht0)
  have K0 : Has (w.alloc (.cells #[.int .i64 t, .slice A n c, .slice B m d] 25)) w.heap.size 25 [.int .i64 t, .slice A n c, .slice B m d] := Has.new rfl
  have B0 : Below w.heap.size w (w.alloc (.cells #[.int .i64 t, .slice A n c, .slice B m d] 25)) := by go_grown
  by_cases hfar : farB t n m = true
  · have CF := Lib.hid (far12 t A B n c m d (w.alloc (.cells #[.int .i64 t, .slice A n c, .slice B m d] 25)))
    rw [hfar] at CF
    go_enter Try.func4, Try.ntmps4
    go_wp2_with fail
    refine CF.out.mono ?_
    rintro e w1 ⟨rfl, hb1⟩
    have B1 := bvia B0 hb1
    go_wp2_with fail
    refine (shown13 _).mono ?_
    rintro e w2 ⟨rfl, hb2⟩
    go_wp2
    go_ret
    exact ⟨rfl, bvia B1 hb2⟩
  have CF := Lib.hid (far12 t A B n c m d (w.alloc (.cells #[.int .i64 t, .slice A n c, .slice B m d] 25)))
  rw [show farB t n m = false by simpa using hfar] at CF
  by_cases hlim : (500 : Int) < (k : Int)
  · have dl : decide ((500 : Int) < (k : Int)) = true := decide_eq_true hlim
    clear hlim
    go_enter Try.func4, Try.ntmps4
    go_wp2_with fail
    refine CF.out.mono ?_
    rintro e w1 ⟨rfl, hb1⟩
    have B1 := bvia B0 hb1
    go_wp2_with fail
    refine (shown13 _).mono ?_
    rintro e w2 ⟨rfl, hb2⟩
    go_wp2
    go_ret
    exact ⟨rfl, bvia B1 hb2⟩
  have dl : decide ((500 : Int) < (k : Int)) = false := decide_eq_false hlim
  clear hlim hfar
  go_enter Try.func4, Try.ntmps4
  go_wp2_with fail
  refine CF.out.mono ?_
  rintro e w1 ⟨rfl, hb1⟩
  have B1 := bvia B0 hb1
  have HB := Lib.hid (K0.below hb1 K0.lt)
  clear K0 hb1 CF B0
  have a0 : w1.cell? ⟨w.heap.size, 0, none⟩ = some (.int .i64 t) := HB.out.cell 0
  have a1 : w1.cell? ⟨w.heap.size, 1, none⟩ = some (.slice A n c) := HB.out.cell 1
  have a2 : w1.cell? ⟨w.heap.size, 2, none⟩ = some (.slice B m d) := HB.out.cell 2
  have q := HB.out.lt
  go_wp2_with fail
  refine (C1.out _ B1).mono ?_
  rintro e w2 ⟨A2, n2, c2, rfl, r2, l2, k2, k2', hb2⟩
  have B2 := bvia B1 hb2
  replace HB := Lib.hid (HB.out.below hb2 HB.out.lt)
  clear hb2 a0 a1 a2 q
  have HS := Lib.hid r2; clear r2
  have HSl := Lib.hid l2; clear l2
  have HSk : n2 ≤ 9223372036854775807 := Nat.le_trans k2 k2'
  clear k2 k2'
  have a0 : w2.cell? ⟨w.heap.size, 0, none⟩ = some (.int .i64 t) := HB.out.cell 0
  have a1 : w2.cell? ⟨w.heap.size, 1, none⟩ = some (.slice A n c) := HB.out.cell 1
  have a2 : w2.cell? ⟨w.heap.size, 2, none⟩ = some (.slice B m d) := HB.out.cell 2
  have q := HB.out.lt
  go_wp2_with fail
  refine (C2.out _ B2).mono ?_
  rintro e w3 ⟨A3, n3, c3, rfl, r3, l3, k3, k3', hb3⟩
  have B3 := bvia B2 hb3
  replace HB := Lib.hid (HB.out.below hb3 HB.out.lt)
  replace HS := Lib.hid (HS.out.up hb3)
  clear hb3 a0 a1 a2 q
  have HT := Lib.hid r3; clear r3
  have HTl := Lib.hid l3; clear l3
  have HTk : n3 ≤ 9223372036854775807 := Nat.le_trans k3 k3'
  clear k3 k3'
  have J1 := Lib.hid (ints18 A2 A3 n2 n3 c2 c3 _ _ w3 HSk HTk HS.out HT.out HSl.out HTl.out)
  simp only [beq_self_eq_true] at J1
  have a0 : w3.cell? ⟨w.heap.size, 0, none⟩ = some (.int .i64 t) := HB.out.cell 0
  have a1 : w3.cell? ⟨w.heap.size, 1, none⟩ = some (.slice A n c) := HB.out.cell 1
  have a2 : w3.cell? ⟨w.heap.size, 2, none⟩ = some (.slice B m d) := HB.out.cell 2
  have q := HB.out.lt
  go_wp2_with fail
  refine (J1.out).mono ?_
  rintro e w4 ⟨rfl, hb4⟩
  have B4 := bvia B3 hb4
  replace HB := Lib.hid (HB.out.below hb4 HB.out.lt)
  replace HS := Lib.hid (HS.out.up hb4)
  replace HT := Lib.hid (HT.out.up hb4)
  clear hb4 a0 a1 a2 q
  clear J1
  have a0 : w4.cell? ⟨w.heap.size, 0, none⟩ = some (.int .i64 t) := HB.out.cell 0
  have a1 : w4.cell? ⟨w.heap.size, 1, none⟩ = some (.slice A n c) := HB.out.cell 1
  have a2 : w4.cell? ⟨w.heap.size, 2, none⟩ = some (.slice B m d) := HB.out.cell 2
  have q := HB.out.lt
  go_wp2_with fail
  refine (shown13 _).mono ?_
  rintro e w5 ⟨rfl, hb5⟩
  have B5 := bvia B4 hb5
  replace HB := Lib.hid (HB.out.below hb5 HB.out.lt)
  replace HS := Lib.hid (HS.out.up hb5)
  replace HT := Lib.hid (HT.out.up hb5)
  clear hb5 a0 a1 a2 q
  go_wp2
  go_ret
  exact ⟨rfl, B5⟩
end Go.Proofs.Ytnijfkidgndbdaa
