/-
  Walk of the law ColoursNames.
-/
import Derived.Test.YtnijfkidgndbdaaNmp
namespace Go.Proofs.Ytnijfkidgndbdaa
open Go.RowKit
set_option maxRecDepth 100000 in
set_option maxHeartbeats 8000000 in
theorem namesOf (t : Int) (A B D : Option Addr) (n c m d k e : Nat) (N : Option Addr) (k2 e2 : Nat) (xs ps : List Q4) (ds ns : List Int) (w : World) (hn : n ≤ 9223372036854775807) (hm : m ≤ 9223372036854775807) (hk : k ≤ 9223372036854775807) (hx : RdQ w w.heap.size A xs) (hp : RdQ w w.heap.size B ps) (hd : RdI w w.heap.size D ds)
    (hl : xs.length = n) (hl' : ps.length = m) (hlk : ds.length = k) (ht0 : -9223372036854775808 ≤ t) (hnc : n ≤ c) (hk2 : k2 ≤ 9223372036854775807) (hnn : RdY w w.heap.size N ns) (hln : ns.length = k2) (hby : ∀ y ∈ ns, 0 ≤ y ∧ y ≤ 255) :
    Calls Try.prog 10 #[vCloth t A n c B m d, .slice D k e, .slice N k2 e2] w fun e w' => e = .returned (.bool true) ∧ Below w.heap.size w w' := by
  have HX := Lib.hid hx; have HP := Lib.hid hp; have HD := Lib.hid hd; have HNN := Lib.hid hnn; have HBY := Lib.hid hby; have HLN := Lib.hid hln; have HNC := Lib.hid hnc
  have C1 := Lib.hid (fun (W : World) (hb : Below w.heap.size w W) => seen14 t A B D n c m d k e xs ps ds W hn hm hk (HX.out.up hb) (HP.out.up hb) (HD.out.up hb) hl hl' hlk ht0)
  clear hx hp hd hnn hby hln hnc
  have K0 : Has (w.alloc (.cells #[.int .i64 t, .slice A n c, .slice B m d] 25)) w.heap.size 25 [.int .i64 t, .slice A n c, .slice B m d] := Has.new rfl
  have B0 : Below w.heap.size w (w.alloc (.cells #[.int .i64 t, .slice A n c, .slice B m d] 25)) := by go_grown
  by_cases hfar : farB t n m = true
  · have CF := Lib.hid (far12 t A B n c m d (w.alloc (.cells #[.int .i64 t, .slice A n c, .slice B m d] 25)))
    rw [hfar] at CF
    go_enter Try.func10, Try.ntmps10
    go_wp2_with fail
    refine CF.out.mono ?_
    rintro e w1 ⟨rfl, hb1⟩
    have B1 := bvia B0 hb1
    go_wp2_with fail
    refine (shown13 _).mono ?_
    rintro e w2 ⟨rfl, hb2⟩
    go_wp2
    go_ret
    exact ⟨rfl, bvia B1 hb2⟩
  have CF := Lib.hid (far12 t A B n c m d (w.alloc (.cells #[.int .i64 t, .slice A n c, .slice B m d] 25)))
  rw [show farB t n m = false by simpa using hfar] at CF
  by_cases hlim : (100 : Int) < (k : Int)
  · have dl : decide ((100 : Int) < (k : Int)) = true := decide_eq_true hlim
    clear hlim
    go_enter Try.func10, Try.ntmps10
    go_wp2_with fail
    refine CF.out.mono ?_
    rintro e w1 ⟨rfl, hb1⟩
    have B1 := bvia B0 hb1
    go_wp2_with fail
    refine (shown13 _).mono ?_
    rintro e w2 ⟨rfl, hb2⟩
    go_wp2
    go_ret
    exact ⟨rfl, bvia B1 hb2⟩
  have dl : decide ((100 : Int) < (k : Int)) = false := decide_eq_false hlim
  clear hlim hfar
  by_cases hk16 : ¬ k2 = 16
  · have dl2 : ((k2 : Int) != 16) = true := by simp; omega
    clear hk16 C1
    go_enter Try.func10, Try.ntmps10
    go_wp2_with fail
    refine CF.out.mono ?_
    rintro e w1 ⟨rfl, hb1⟩
    have B1 := bvia B0 hb1
    have HB := Lib.hid (K0.below hb1 K0.lt)
    clear K0 hb1 CF B0
    have a0 : w1.cell? ⟨w.heap.size, 0, none⟩ = some (.int .i64 t) := HB.out.cell 0
    have a1 : w1.cell? ⟨w.heap.size, 1, none⟩ = some (.slice A n c) := HB.out.cell 1
    have a2 : w1.cell? ⟨w.heap.size, 2, none⟩ = some (.slice B m d) := HB.out.cell 2
    have q := HB.out.lt
    go_wp2_with fail
    refine (shown13 _).mono ?_
    rintro e w2 ⟨rfl, hb2⟩
    go_wp2
    go_ret
    exact ⟨rfl, bvia B1 hb2⟩
  obtain rfl : k2 = 16 := by omega
  clear hk16
  by_cases hE : chkE t xs ps ds = 0
  · obtain ⟨g1, g2, g3⟩ := chkE_ok hE
    have ht2 := (ckE_ok g1).1
    have ht48 := (ckE_ok g1).2.1
    have hn2 : n ≤ 20000 := by have := (ckE_ok g1).2.2.1; rw [hl] at this; exact this
    obtain ⟨k', rfl⟩ := Int.eq_ofNat_of_zero_le (show 0 ≤ t by omega)
    obtain rfl : k' = k := by rw [hlk] at g2; omega
    have hkk : k' ≤ 20000 := by omega
    have hE' := chkE_ren (ns := ns) hE HBY.out
    have hS1 : seenR (k' : Int) xs ps ds = overL xs ds := by unfold seenR; rw [if_pos hE]
    have hS2 : seenR (k' : Int) xs ps (renL ns ds) = renL ns (overL xs ds) := by unfold seenR; rw [if_pos hE', over_ren hE]
    have hB1 : backR (k' : Int) xs ps ds = underL xs ds := by unfold backR; rw [if_pos hE]
    have hB2 : backR (k' : Int) xs ps (renL ns ds) = renL ns (underL xs ds) := by unfold backR; rw [if_pos hE', under_ren hE]
    have hP1 : plainR (k' : Int) xs ps ds = eqTo (overL xs ds) (underL xs ds) n := by unfold plainR; rw [if_pos hE, hl]
    have hP2 : plainR (k' : Int) xs ps (renL ns ds) = eqTo (renL ns (overL xs ds)) (renL ns (underL xs ds)) n := by unfold plainR; rw [if_pos hE', over_ren hE, under_ren hE, hl]
    obtain ⟨hL1, hL2⟩ := lineR_ok hE
    obtain ⟨hL3, hL4⟩ := lineR_ok hE'
    rw [hl] at hL1 hL2 hL3 hL4
    rw [(line_ren (ns := ns) hE n).1] at hL4
    have hlr : (renL ns ds).length = k' := by rw [renL_len]; exact hlk
    have C2 := Lib.hid (fun (W : World) (hb : Below w.heap.size w W) => back19 (k' : Int) A B D n c m d k' e xs ps ds W hn hm hk (HX.out.up hb) (HP.out.up hb) (HD.out.up hb) hl hl' hlk ht0)
    have C3 := Lib.hid (fun (W : World) (hb : Below w.heap.size w W) => plain25 (k' : Int) A B D n c m d k' e xs ps ds W hn hm hk (HX.out.up hb) (HP.out.up hb) (HD.out.up hb) hl hl' hlk ht0)
    have C4 := Lib.hid (fun (W : World) (hb : Below w.heap.size w W) => line21 (k' : Int) A B D n c m d k' e (n : Int) xs ps ds W hn hm hk (HX.out.up hb) (HP.out.up hb) (HD.out.up hb) hl hl' hlk ht0 HNC.out)
    have R1 := Lib.hid (fun (E : Option Addr) (e' : Nat) (W : World) (hb : Below w.heap.size w W) (hr : RdI W W.heap.size E (renL ns ds)) => seen14 (k' : Int) A B E n c m d k' e' xs ps (renL ns ds) W hn hm hk (HX.out.up hb) (HP.out.up hb) hr hl hl' hlr ht0)
    have R2 := Lib.hid (fun (E : Option Addr) (e' : Nat) (W : World) (hb : Below w.heap.size w W) (hr : RdI W W.heap.size E (renL ns ds)) => back19 (k' : Int) A B E n c m d k' e' xs ps (renL ns ds) W hn hm hk (HX.out.up hb) (HP.out.up hb) hr hl hl' hlr ht0)
    have R3 := Lib.hid (fun (E : Option Addr) (e' : Nat) (W : World) (hb : Below w.heap.size w W) (hr : RdI W W.heap.size E (renL ns ds)) => plain25 (k' : Int) A B E n c m d k' e' xs ps (renL ns ds) W hn hm hk (HX.out.up hb) (HP.out.up hb) hr hl hl' hlr ht0)
    have R4 := Lib.hid (fun (E : Option Addr) (e' : Nat) (W : World) (hb : Below w.heap.size w W) (hr : RdI W W.heap.size E (renL ns ds)) => line21 (k' : Int) A B E n c m d k' e' (n : Int) xs ps (renL ns ds) W hn hm hk (HX.out.up hb) (HP.out.up hb) hr hl hl' hlr ht0 HNC.out)
    have N1 := Lib.hid (fun (M : List Int) (E : Option Addr) (kk ee : Nat) (h1 : kk ≤ 20000) (h2 : M.length = kk) (h3 : ∀ y ∈ M, 0 ≤ y ∧ y < 16) (W : World) (hb : Below w.heap.size w W) (hr : RdI W W.heap.size E M) => ren37 E N kk ee e2 M ns W h1 hr (HNN.out.up hb) h2 HLN.out h3 HBY.out)
    have P1 := Lib.hid (fun (S : Option Addr) (e' : Nat) (W : World) (hb : Below w.heap.size w W) (hr : RdI W W.heap.size S (overL xs ds)) => part38 k' A B D S n c m d e e' xs ps ds W hn2 hm (HX.out.up hb) (HP.out.up hb) (HD.out.up hb) hr hl hl' hlk hE)
    rw [hS1, hE] at C1
    rw [hB1, hE] at C2
    rw [hP1, hE] at C3
    rw [hL2, hL1] at C4
    rw [hS2, hE'] at R1
    rw [hB2, hE'] at R2
    rw [hP2, hE'] at R3
    rw [hL4, hL3] at R4
    have HCD := Lib.hid (colOk_mem g3)
    have HCS := Lib.hid (over_col hE)
    have HCU := Lib.hid (under_col hE)
    have HCL := Lib.hid (line_ren (ns := ns) hE n).2
    have LS : Hid ((overL xs ds).length = n) := by show _ = n; simp [overL, hl]
    have LU : Hid ((underL xs ds).length = n) := by show _ = n; simp [underL, hl]
    have LL : Hid ((lineTo xs ds n).length = k') := by show _ = k'; rw [lineTo_len, hlk]
    have HPM : Hid (∀ i ∈ eqTo (overL xs ds) (underL xs ds) n, i ∈ eqTo (renL ns (overL xs ds)) (renL ns (underL xs ds)) n) := fun i hi => eqTo_ren hi
    have HK := Lib.hid hlk
    have HLR := Lib.hid hlr
    have hk0 : ((k' : Int) == 0) = false := by simp; omega
    replace ht2 := Lib.hid ht2; replace ht48 := Lib.hid ht48
    clear hE hE' g1 g2 g3 hS1 hS2 hB1 hB2 hP1 hP2 hL1 hL2 hL3 hL4 hlr hl hl' hlk
    generalize eqTo (renL ns (overL xs ds)) (renL ns (underL xs ds)) n = Q2 at *
    generalize eqTo (overL xs ds) (underL xs ds) n = Q1 at *
    generalize overL xs ds = S at *
    generalize underL xs ds = U at *
    generalize lineTo xs ds n = LI at *
    clear HX HP HNN HBY HLN HNC
    go_enter Try.func10, Try.ntmps10
    go_wp2_with fail
    refine CF.out.mono ?_
    rintro e w1 ⟨rfl, hb1⟩
    have B1 := bvia B0 hb1
    have HB := Lib.hid (K0.below hb1 K0.lt)
    clear K0 hb1 CF B0
    have a0 : w1.cell? ⟨w.heap.size, 0, none⟩ = some (.int .i64 (k' : Int)) := HB.out.cell 0
    have a1 : w1.cell? ⟨w.heap.size, 1, none⟩ = some (.slice A n c) := HB.out.cell 1
    have a2 : w1.cell? ⟨w.heap.size, 2, none⟩ = some (.slice B m d) := HB.out.cell 2
    have q := HB.out.lt
    go_wp2_with fail
    refine (C1.out _ B1).mono ?_
    rintro e w2 ⟨A2, n2, c2, rfl, r2, l2, k2, k2', hb2⟩
    have B2 := bvia B1 hb2
    replace HB := Lib.hid (HB.out.below hb2 HB.out.lt)
    clear hb2 a0 a1 a2 q
    have HS := Lib.hid r2; clear r2
    have HSl := Lib.hid l2; clear l2
    have HSk : n2 ≤ 9223372036854775807 := Nat.le_trans k2 k2'
    clear k2 k2'
    obtain rfl : n = n2 := by rw [← HSl.out]; exact LS.out.symm
    have a0 : w2.cell? ⟨w.heap.size, 0, none⟩ = some (.int .i64 (k' : Int)) := HB.out.cell 0
    have a1 : w2.cell? ⟨w.heap.size, 1, none⟩ = some (.slice A n c) := HB.out.cell 1
    have a2 : w2.cell? ⟨w.heap.size, 2, none⟩ = some (.slice B m d) := HB.out.cell 2
    have q := HB.out.lt
    go_wp2_with fail
    refine (N1.out ds D k' e hkk HK.out HCD.out _ B2 (HD.out.up B2)).mono ?_
    rintro e w3 ⟨A3, n3, c3, rfl, r3, l3, hb3⟩
    have o3 := own_caps r3
    have B3 := bvia B2 hb3
    replace HB := Lib.hid (HB.out.below hb3 HB.out.lt)
    replace HS := Lib.hid (HS.out.up hb3)
    clear hb3 a0 a1 a2 q
    have HR := Lib.hid (own_rd1 r3); clear r3
    have HRl := Lib.hid l3; clear l3
    have HRk : n3 ≤ 9223372036854775807 := Nat.le_trans o3.1 o3.2
    clear o3
    obtain rfl : k' = n3 := by rw [← HRl.out]; exact HLR.out.symm
    have a0 : w3.cell? ⟨w.heap.size, 0, none⟩ = some (.int .i64 (k' : Int)) := HB.out.cell 0
    have a1 : w3.cell? ⟨w.heap.size, 1, none⟩ = some (.slice A n c) := HB.out.cell 1
    have a2 : w3.cell? ⟨w.heap.size, 2, none⟩ = some (.slice B m d) := HB.out.cell 2
    have q := HB.out.lt
    go_wp2_with fail
    refine (R1.out A3 c3 _ B3 HR.out).mono ?_
    rintro e w4 ⟨A4, n4, c4, rfl, r4, l4, k4, k4', hb4⟩
    have B4 := bvia B3 hb4
    replace HB := Lib.hid (HB.out.below hb4 HB.out.lt)
    replace HS := Lib.hid (HS.out.up hb4)
    replace HR := Lib.hid (HR.out.up hb4)
    clear hb4 a0 a1 a2 q
    have HT := Lib.hid r4; clear r4
    have HTl := Lib.hid l4; clear l4
    have HTk : n4 ≤ 9223372036854775807 := Nat.le_trans k4 k4'
    clear k4 k4'
    have a0 : w4.cell? ⟨w.heap.size, 0, none⟩ = some (.int .i64 (k' : Int)) := HB.out.cell 0
    have a1 : w4.cell? ⟨w.heap.size, 1, none⟩ = some (.slice A n c) := HB.out.cell 1
    have a2 : w4.cell? ⟨w.heap.size, 2, none⟩ = some (.slice B m d) := HB.out.cell 2
    have q := HB.out.lt
    go_wp2_with fail
    refine (C2.out _ B4).mono ?_
    rintro e w5 ⟨A5, n5, c5, rfl, r5, l5, k5, k5', hb5⟩
    have B5 := bvia B4 hb5
    replace HB := Lib.hid (HB.out.below hb5 HB.out.lt)
    replace HS := Lib.hid (HS.out.up hb5)
    replace HR := Lib.hid (HR.out.up hb5)
    replace HT := Lib.hid (HT.out.up hb5)
    clear hb5 a0 a1 a2 q
    have HU := Lib.hid r5; clear r5
    have HUl := Lib.hid l5; clear l5
    have HUk : n5 ≤ 9223372036854775807 := Nat.le_trans k5 k5'
    clear k5 k5'
    obtain rfl : n = n5 := by rw [← HUl.out]; exact LU.out.symm
    have a0 : w5.cell? ⟨w.heap.size, 0, none⟩ = some (.int .i64 (k' : Int)) := HB.out.cell 0
    have a1 : w5.cell? ⟨w.heap.size, 1, none⟩ = some (.slice A n c) := HB.out.cell 1
    have a2 : w5.cell? ⟨w.heap.size, 2, none⟩ = some (.slice B m d) := HB.out.cell 2
    have q := HB.out.lt
    go_wp2_with fail
    refine (R2.out A3 c3 _ B5 HR.out).mono ?_
    rintro e w6 ⟨A6, n6, c6, rfl, r6, l6, k6, k6', hb6⟩
    have B6 := bvia B5 hb6
    replace HB := Lib.hid (HB.out.below hb6 HB.out.lt)
    replace HS := Lib.hid (HS.out.up hb6)
    replace HR := Lib.hid (HR.out.up hb6)
    replace HT := Lib.hid (HT.out.up hb6)
    replace HU := Lib.hid (HU.out.up hb6)
    clear hb6 a0 a1 a2 q
    have HV := Lib.hid r6; clear r6
    have HVl := Lib.hid l6; clear l6
    have HVk : n6 ≤ 9223372036854775807 := Nat.le_trans k6 k6'
    clear k6 k6'
    have a0 : w6.cell? ⟨w.heap.size, 0, none⟩ = some (.int .i64 (k' : Int)) := HB.out.cell 0
    have a1 : w6.cell? ⟨w.heap.size, 1, none⟩ = some (.slice A n c) := HB.out.cell 1
    have a2 : w6.cell? ⟨w.heap.size, 2, none⟩ = some (.slice B m d) := HB.out.cell 2
    have q := HB.out.lt
    go_wp2_with fail
    refine (C3.out _ B6).mono ?_
    rintro e w7 ⟨A7, n7, c7, rfl, r7, l7, k7, k7', hb7⟩
    have B7 := bvia B6 hb7
    replace HB := Lib.hid (HB.out.below hb7 HB.out.lt)
    replace HS := Lib.hid (HS.out.up hb7)
    replace HR := Lib.hid (HR.out.up hb7)
    replace HT := Lib.hid (HT.out.up hb7)
    replace HU := Lib.hid (HU.out.up hb7)
    replace HV := Lib.hid (HV.out.up hb7)
    clear hb7 a0 a1 a2 q
    have HA := Lib.hid r7; clear r7
    have HAl := Lib.hid l7; clear l7
    have HAk : n7 ≤ 9223372036854775807 := Nat.le_trans k7 k7'
    clear k7 k7'
    have a0 : w7.cell? ⟨w.heap.size, 0, none⟩ = some (.int .i64 (k' : Int)) := HB.out.cell 0
    have a1 : w7.cell? ⟨w.heap.size, 1, none⟩ = some (.slice A n c) := HB.out.cell 1
    have a2 : w7.cell? ⟨w.heap.size, 2, none⟩ = some (.slice B m d) := HB.out.cell 2
    have q := HB.out.lt
    go_wp2_with fail
    refine (R3.out A3 c3 _ B7 HR.out).mono ?_
    rintro e w8 ⟨A8, n8, c8, rfl, r8, l8, k8, k8', hb8⟩
    have B8 := bvia B7 hb8
    replace HB := Lib.hid (HB.out.below hb8 HB.out.lt)
    replace HS := Lib.hid (HS.out.up hb8)
    replace HR := Lib.hid (HR.out.up hb8)
    replace HT := Lib.hid (HT.out.up hb8)
    replace HU := Lib.hid (HU.out.up hb8)
    replace HV := Lib.hid (HV.out.up hb8)
    replace HA := Lib.hid (HA.out.up hb8)
    clear hb8 a0 a1 a2 q
    have HC := Lib.hid r8; clear r8
    have HCl := Lib.hid l8; clear l8
    have HCk : n8 ≤ 9223372036854775807 := Nat.le_trans k8 k8'
    clear k8 k8'
    have a0 : w8.cell? ⟨w.heap.size, 0, none⟩ = some (.int .i64 (k' : Int)) := HB.out.cell 0
    have a1 : w8.cell? ⟨w.heap.size, 1, none⟩ = some (.slice A n c) := HB.out.cell 1
    have a2 : w8.cell? ⟨w.heap.size, 2, none⟩ = some (.slice B m d) := HB.out.cell 2
    have q := HB.out.lt
    go_wp2_with fail
    refine (N1.out S A2 n c2 hn2 LS.out HCS.out _ B8 HS.out).mono ?_
    rintro e w9 ⟨A9, n9, c9, rfl, r9, l9, hb9⟩
    have o9 := own_caps r9
    have B9 := bvia B8 hb9
    replace HB := Lib.hid (HB.out.below hb9 HB.out.lt)
    replace HS := Lib.hid (HS.out.up hb9)
    replace HR := Lib.hid (HR.out.up hb9)
    replace HT := Lib.hid (HT.out.up hb9)
    replace HU := Lib.hid (HU.out.up hb9)
    replace HV := Lib.hid (HV.out.up hb9)
    replace HA := Lib.hid (HA.out.up hb9)
    replace HC := Lib.hid (HC.out.up hb9)
    clear hb9 a0 a1 a2 q
    have HE := Lib.hid (own_rd1 r9); clear r9
    have HEl := Lib.hid l9; clear l9
    have HEk : n9 ≤ 9223372036854775807 := Nat.le_trans o9.1 o9.2
    clear o9
    have J1 := Lib.hid (ints18 A9 A4 n9 n4 c9 c4 _ _ w9 HEk HTk HE.out HT.out HEl.out HTl.out)
    simp only [beq_self_eq_true] at J1
    have a0 : w9.cell? ⟨w.heap.size, 0, none⟩ = some (.int .i64 (k' : Int)) := HB.out.cell 0
    have a1 : w9.cell? ⟨w.heap.size, 1, none⟩ = some (.slice A n c) := HB.out.cell 1
    have a2 : w9.cell? ⟨w.heap.size, 2, none⟩ = some (.slice B m d) := HB.out.cell 2
    have q := HB.out.lt
    go_wp2_with fail
    refine (J1.out).mono ?_
    rintro e w10 ⟨rfl, hb10⟩
    have B10 := bvia B9 hb10
    replace HB := Lib.hid (HB.out.below hb10 HB.out.lt)
    replace HS := Lib.hid (HS.out.up hb10)
    replace HR := Lib.hid (HR.out.up hb10)
    replace HT := Lib.hid (HT.out.up hb10)
    replace HU := Lib.hid (HU.out.up hb10)
    replace HV := Lib.hid (HV.out.up hb10)
    replace HA := Lib.hid (HA.out.up hb10)
    replace HC := Lib.hid (HC.out.up hb10)
    replace HE := Lib.hid (HE.out.up hb10)
    clear hb10 a0 a1 a2 q
    clear J1
    have a0 : w10.cell? ⟨w.heap.size, 0, none⟩ = some (.int .i64 (k' : Int)) := HB.out.cell 0
    have a1 : w10.cell? ⟨w.heap.size, 1, none⟩ = some (.slice A n c) := HB.out.cell 1
    have a2 : w10.cell? ⟨w.heap.size, 2, none⟩ = some (.slice B m d) := HB.out.cell 2
    have q := HB.out.lt
    go_wp2_with fail
    refine (N1.out U A5 n c5 hn2 LU.out HCU.out _ B10 HU.out).mono ?_
    rintro e w11 ⟨A11, n11, c11, rfl, r11, l11, hb11⟩
    have o11 := own_caps r11
    have B11 := bvia B10 hb11
    replace HB := Lib.hid (HB.out.below hb11 HB.out.lt)
    replace HS := Lib.hid (HS.out.up hb11)
    replace HR := Lib.hid (HR.out.up hb11)
    replace HT := Lib.hid (HT.out.up hb11)
    replace HU := Lib.hid (HU.out.up hb11)
    replace HV := Lib.hid (HV.out.up hb11)
    replace HA := Lib.hid (HA.out.up hb11)
    replace HC := Lib.hid (HC.out.up hb11)
    replace HE := Lib.hid (HE.out.up hb11)
    clear hb11 a0 a1 a2 q
    have HF := Lib.hid (own_rd1 r11); clear r11
    have HFl := Lib.hid l11; clear l11
    have HFk : n11 ≤ 9223372036854775807 := Nat.le_trans o11.1 o11.2
    clear o11
    have J2 := Lib.hid (ints18 A11 A6 n11 n6 c11 c6 _ _ w11 HFk HVk HF.out HV.out HFl.out HVl.out)
    simp only [beq_self_eq_true] at J2
    have a0 : w11.cell? ⟨w.heap.size, 0, none⟩ = some (.int .i64 (k' : Int)) := HB.out.cell 0
    have a1 : w11.cell? ⟨w.heap.size, 1, none⟩ = some (.slice A n c) := HB.out.cell 1
    have a2 : w11.cell? ⟨w.heap.size, 2, none⟩ = some (.slice B m d) := HB.out.cell 2
    have q := HB.out.lt
    go_wp2_with fail
    refine (J2.out).mono ?_
    rintro e w12 ⟨rfl, hb12⟩
    have B12 := bvia B11 hb12
    replace HB := Lib.hid (HB.out.below hb12 HB.out.lt)
    replace HS := Lib.hid (HS.out.up hb12)
    replace HR := Lib.hid (HR.out.up hb12)
    replace HT := Lib.hid (HT.out.up hb12)
    replace HU := Lib.hid (HU.out.up hb12)
    replace HV := Lib.hid (HV.out.up hb12)
    replace HA := Lib.hid (HA.out.up hb12)
    replace HC := Lib.hid (HC.out.up hb12)
    replace HE := Lib.hid (HE.out.up hb12)
    replace HF := Lib.hid (HF.out.up hb12)
    clear hb12 a0 a1 a2 q
    clear J2
    have a0 : w12.cell? ⟨w.heap.size, 0, none⟩ = some (.int .i64 (k' : Int)) := HB.out.cell 0
    have a1 : w12.cell? ⟨w.heap.size, 1, none⟩ = some (.slice A n c) := HB.out.cell 1
    have a2 : w12.cell? ⟨w.heap.size, 2, none⟩ = some (.slice B m d) := HB.out.cell 2
    have q := HB.out.lt
    go_wp2
    go_loopw [20] (fun i wr => ∃ j : Nat, j ≤ n7 ∧ i = .int .i64 (j : Int) ∧ Below w12.heap.size w12 wr) (fun i _ => n7 - (intOf i).toNat)
    case atStart => exact ⟨0, Nat.zero_le _, rfl, Below.refl _ _⟩
    case round =>
      clear a0 a1 a2 q
      obtain ⟨j, hj, rfl, hb⟩ := hrel
      obtain ⟨wo, rfl⟩ : ∃ wo : World, wo = wr := ⟨_, rfl⟩
      have hz := hb.size
      by_cases hlt : j < n7
      · obtain ⟨v, hv⟩ := get_of_lt (l := Q1) (k := j) (by rw [HAl.out]; exact hlt)
        obtain ⟨ba, oa, rfl, hba, c0⟩ := HA.out _ _ hv
        have HM := Lib.hid (HPM.out v (mem_of_get hv))
        have jn : (j : Int) < (n7 : Int) := by omega
        clear hv
        go_wp2
        go_loopw [21, 22] (fun f i wr => ∃ (l : Nat) (b : Bool), l ≤ n8 ∧ i = .int .i64 (l : Int) ∧ f = .bool b ∧ Hid (b = true ↔ v ∈ Q2.take l) ∧ Below w12.heap.size w12 wr) (fun _ i _ => n8 - (intOf i).toNat)
        case atStart => exact ⟨0, false, Nat.zero_le _, rfl, rfl, Lib.hid (by simp), hb⟩
        case round =>
          clear hb hz
          obtain ⟨l, b, hl, rfl, rfl, HBI, hb⟩ := hrel
          obtain ⟨wo, rfl⟩ : ∃ wo : World, wo = wr := ⟨_, rfl⟩
          have hz := hb.size
          by_cases hlt2 : l < n8
          · obtain ⟨u, hu⟩ := get_of_lt (l := Q2) (k := l) (by rw [HCl.out]; exact hlt2)
            obtain ⟨bc, oc, rfl, hbc, d0⟩ := HC.out _ _ hu
            have e0 := (hb.cell (p := ⟨ba, oa + j, none⟩) hba).trans c0
            have e1 := (hb.cell (p := ⟨bc, oc + l, none⟩) hbc).trans d0
            have z0 : ba < wo.heap.size := Nat.lt_of_lt_of_le hba hz
            have z1 : bc < wo.heap.size := Nat.lt_of_lt_of_le hbc hz
            have ln : (l : Int) < (n8 : Int) := by omega
            have HTK : Hid (Q2.take (l + 1) = Q2.take l ++ [u]) := by show _ = _; rw [List.take_add_one, hu]; rfl
            clear hu d0
            cases b with
            | true =>
              have hin : v ∈ Q2.take l := HBI.out.1 rfl
              go_wp2
              have hxc := fun (x : Ext wo) => x.cell
              refine wp_region_ext (by kernel_rfl) (by kernel_rfl) ?_
              repeat (go_big_quiet_step (fail))
              refine wpQuiet_nil ?_
              intro w6 hw'
              have hb6 := ext_below hw'; clear hw' hxc
              have B6 := hb.trans (hb6.mono hz)
              clear hb6
              go_wp2
              go_roundw
              case rel => exact ⟨l + 1, true, by omega, by go_num, rfl, Lib.hid (by rw [HTK.out]; simp [hin]), B6⟩
              case measure => first | (simp [intOf]; done) | (simp [intOf]; omega)
            | false =>
              by_cases hvu : v = u
              · have hd : (v == u) = true := by simpa using hvu
                go_wp2
                have hxc := fun (x : Ext wo) => x.cell
                refine wp_region_ext (by kernel_rfl) (by kernel_rfl) ?_
                repeat (go_big_quiet_step (fail))
                refine wpQuiet_nil ?_
                intro w6 hw'
                have hb6 := ext_below hw'; clear hw' hxc
                have B6 := hb.trans (hb6.mono hz)
                clear hb6
                go_wp2
                go_roundw
                case rel => exact ⟨l + 1, true, by omega, by go_num, rfl, Lib.hid (by rw [HTK.out]; simp [hvu]), B6⟩
                case measure => first | (simp [intOf]; done) | (simp [intOf]; omega)
              · have hd : (v == u) = false := by simpa using hvu
                have hni : ¬ v ∈ Q2.take l := fun h => by have := HBI.out.2 h; cases this
                go_wp2
                have hxc := fun (x : Ext wo) => x.cell
                refine wp_region_ext (by kernel_rfl) (by kernel_rfl) ?_
                repeat (go_big_quiet_step (fail))
                refine wpQuiet_nil ?_
                intro w6 hw'
                have hb6 := ext_below hw'; clear hw' hxc
                have B6 := hb.trans (hb6.mono hz)
                clear hb6
                go_wp2
                go_roundw
                case rel => exact ⟨l + 1, false, by omega, by go_num, rfl, Lib.hid (by rw [HTK.out]; simp [hvu, hni]), B6⟩
                case measure => first | (simp [intOf]; done) | (simp [intOf]; omega)
          · obtain rfl : n8 = l := by omega
            obtain rfl : b = true := HBI.out.2 (by rw [List.take_of_length_le (by rw [HCl.out]; exact Nat.le_refl _)]; exact HM.out)
            go_wp2
            go_roundw
            case rel => exact ⟨j + 1, by omega, by go_num, hb⟩
            case measure => first | (simp [intOf]; done) | (simp [intOf]; omega)
      · obtain rfl : n7 = j := by omega
        obtain ⟨w13, rfl⟩ : ∃ w13 : World, w13 = wo := ⟨_, rfl⟩
        have hb13 := hb
        have B13 := bvia B12 hb13
        replace HB := Lib.hid (HB.out.below hb13 HB.out.lt)
        replace HS := Lib.hid (HS.out.up hb13)
        replace HR := Lib.hid (HR.out.up hb13)
        clear hb hb13 hz HT HU HV HA HC HE HF HTl HUl HVl HAl HCl HEl HFl HPM
        have a0 : w13.cell? ⟨w.heap.size, 0, none⟩ = some (.int .i64 (k' : Int)) := HB.out.cell 0
        have a1 : w13.cell? ⟨w.heap.size, 1, none⟩ = some (.slice A n c) := HB.out.cell 1
        have a2 : w13.cell? ⟨w.heap.size, 2, none⟩ = some (.slice B m d) := HB.out.cell 2
        have q := HB.out.lt
        go_wp2_with fail
        refine (C4.out _ B13).mono ?_
        rintro e w14 ⟨A14, n14, c14, rfl, r14, l14, k14, k14', hb14⟩
        have B14 := bvia B13 hb14
        replace HB := Lib.hid (HB.out.below hb14 HB.out.lt)
        replace HS := Lib.hid (HS.out.up hb14)
        replace HR := Lib.hid (HR.out.up hb14)
        clear hb14 a0 a1 a2 q
        have HG := Lib.hid r14; clear r14
        have HGl := Lib.hid l14; clear l14
        have HGk : n14 ≤ 9223372036854775807 := Nat.le_trans k14 k14'
        clear k14 k14'
        obtain rfl : k' = n14 := by rw [← HGl.out]; exact LL.out.symm
        have a0 : w14.cell? ⟨w.heap.size, 0, none⟩ = some (.int .i64 (k' : Int)) := HB.out.cell 0
        have a1 : w14.cell? ⟨w.heap.size, 1, none⟩ = some (.slice A n c) := HB.out.cell 1
        have a2 : w14.cell? ⟨w.heap.size, 2, none⟩ = some (.slice B m d) := HB.out.cell 2
        have q := HB.out.lt
        go_wp2_with fail
        refine (R4.out A3 c3 _ B14 HR.out).mono ?_
        rintro e w15 ⟨A15, n15, c15, rfl, r15, l15, k15, k15', hb15⟩
        have B15 := bvia B14 hb15
        replace HB := Lib.hid (HB.out.below hb15 HB.out.lt)
        replace HS := Lib.hid (HS.out.up hb15)
        replace HR := Lib.hid (HR.out.up hb15)
        replace HG := Lib.hid (HG.out.up hb15)
        clear hb15 a0 a1 a2 q
        have HH := Lib.hid r15; clear r15
        have HHl := Lib.hid l15; clear l15
        have HHk : n15 ≤ 9223372036854775807 := Nat.le_trans k15 k15'
        clear k15 k15'
        have a0 : w15.cell? ⟨w.heap.size, 0, none⟩ = some (.int .i64 (k' : Int)) := HB.out.cell 0
        have a1 : w15.cell? ⟨w.heap.size, 1, none⟩ = some (.slice A n c) := HB.out.cell 1
        have a2 : w15.cell? ⟨w.heap.size, 2, none⟩ = some (.slice B m d) := HB.out.cell 2
        have q := HB.out.lt
        go_wp2_with fail
        refine (N1.out LI A14 k' c14 hkk LL.out HCL.out _ B15 HG.out).mono ?_
        rintro e w16 ⟨A16, n16, c16, rfl, r16, l16, hb16⟩
        have o16 := own_caps r16
        have B16 := bvia B15 hb16
        replace HB := Lib.hid (HB.out.below hb16 HB.out.lt)
        replace HS := Lib.hid (HS.out.up hb16)
        replace HR := Lib.hid (HR.out.up hb16)
        replace HG := Lib.hid (HG.out.up hb16)
        replace HH := Lib.hid (HH.out.up hb16)
        clear hb16 a0 a1 a2 q
        have HI := Lib.hid (own_rd1 r16); clear r16
        have HIl := Lib.hid l16; clear l16
        have HIk : n16 ≤ 9223372036854775807 := Nat.le_trans o16.1 o16.2
        clear o16
        have J3 := Lib.hid (ints18 A16 A15 n16 n15 c16 c15 _ _ w16 HIk HHk HI.out HH.out HIl.out HHl.out)
        simp only [beq_self_eq_true] at J3
        have a0 : w16.cell? ⟨w.heap.size, 0, none⟩ = some (.int .i64 (k' : Int)) := HB.out.cell 0
        have a1 : w16.cell? ⟨w.heap.size, 1, none⟩ = some (.slice A n c) := HB.out.cell 1
        have a2 : w16.cell? ⟨w.heap.size, 2, none⟩ = some (.slice B m d) := HB.out.cell 2
        have q := HB.out.lt
        go_wp2_with fail
        refine (J3.out).mono ?_
        rintro e w17 ⟨rfl, hb17⟩
        have B17 := bvia B16 hb17
        replace HB := Lib.hid (HB.out.below hb17 HB.out.lt)
        replace HS := Lib.hid (HS.out.up hb17)
        replace HR := Lib.hid (HR.out.up hb17)
        replace HG := Lib.hid (HG.out.up hb17)
        replace HH := Lib.hid (HH.out.up hb17)
        replace HI := Lib.hid (HI.out.up hb17)
        clear hb17 a0 a1 a2 q
        clear J3
        have a0 : w17.cell? ⟨w.heap.size, 0, none⟩ = some (.int .i64 (k' : Int)) := HB.out.cell 0
        have a1 : w17.cell? ⟨w.heap.size, 1, none⟩ = some (.slice A n c) := HB.out.cell 1
        have a2 : w17.cell? ⟨w.heap.size, 2, none⟩ = some (.slice B m d) := HB.out.cell 2
        have q := HB.out.lt
        go_wp2_with fail
        refine (P1.out A2 c2 _ B17 HS.out).mono ?_
        rintro e w18 ⟨rfl, hb18⟩
        have B18 := bvia B17 hb18
        replace HB := Lib.hid (HB.out.below hb18 HB.out.lt)
        replace HS := Lib.hid (HS.out.up hb18)
        replace HR := Lib.hid (HR.out.up hb18)
        replace HG := Lib.hid (HG.out.up hb18)
        replace HH := Lib.hid (HH.out.up hb18)
        replace HI := Lib.hid (HI.out.up hb18)
        clear hb18 a0 a1 a2 q
        have a0 : w18.cell? ⟨w.heap.size, 0, none⟩ = some (.int .i64 (k' : Int)) := HB.out.cell 0
        have a1 : w18.cell? ⟨w.heap.size, 1, none⟩ = some (.slice A n c) := HB.out.cell 1
        have a2 : w18.cell? ⟨w.heap.size, 2, none⟩ = some (.slice B m d) := HB.out.cell 2
        have q := HB.out.lt
        go_wp2_with fail
        refine (shown13 _).mono ?_
        rintro e w19 ⟨rfl, hb19⟩
        have B19 := bvia B18 hb19
        replace HB := Lib.hid (HB.out.below hb19 HB.out.lt)
        replace HS := Lib.hid (HS.out.up hb19)
        replace HR := Lib.hid (HR.out.up hb19)
        replace HG := Lib.hid (HG.out.up hb19)
        replace HH := Lib.hid (HH.out.up hb19)
        replace HI := Lib.hid (HI.out.up hb19)
        clear hb19 a0 a1 a2 q
        go_wp2
        go_ret
        exact ⟨rfl, B19⟩
  · have e1 : seenR t xs ps ds = [] := by unfold seenR; rw [if_neg hE]
    rw [e1] at C1
    generalize chkE t xs ps ds = r at *
    have hr : (r != 0) = true := by simpa using hE
    clear hE e1
    go_enter Try.func10, Try.ntmps10
    go_wp2_with fail
    refine CF.out.mono ?_
    rintro e w1 ⟨rfl, hb1⟩
    have B1 := bvia B0 hb1
    have HB := Lib.hid (K0.below hb1 K0.lt)
    clear K0 hb1 CF B0
    have a0 : w1.cell? ⟨w.heap.size, 0, none⟩ = some (.int .i64 t) := HB.out.cell 0
    have a1 : w1.cell? ⟨w.heap.size, 1, none⟩ = some (.slice A n c) := HB.out.cell 1
    have a2 : w1.cell? ⟨w.heap.size, 2, none⟩ = some (.slice B m d) := HB.out.cell 2
    have q := HB.out.lt
    go_wp2_with fail
    refine (C1.out _ B1).mono ?_
    rintro e w2 ⟨A2, n2, c2, rfl, r2, l2, k2, k2', hb2⟩
    obtain rfl : 0 = n2 := l2
    have B2 := bvia B1 hb2
    clear r2 HB a0 a1 a2 q
    go_wp2_with fail
    refine (shown13 _).mono ?_
    rintro e w3 ⟨rfl, hb3⟩
    go_wp2
    go_ret
    exact ⟨rfl, bvia B2 hb3⟩
end Go.Proofs.Ytnijfkidgndbdaa
