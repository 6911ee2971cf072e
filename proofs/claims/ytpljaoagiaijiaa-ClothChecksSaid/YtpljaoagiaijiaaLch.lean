/-
  Contract of torchonref17.Linked; walk of the law ClothChecks.
-/
import Derived.Test.YtpljaoagiaijiaaWd
import Derived.Test.YtpljaoagiaijiaaLkr
import Derived.Test.YtpljaoagiaijiaaSn
namespace Go.Proofs.Ytpljaoagiaijiaa
open Go.RowKit
set_option maxRecDepth 100000 in
set_option maxHeartbeats 2000000 in
theorem linked34a (t : Int) (A B : Option Addr) (n c m d : Nat) (xs ps : List Q4) (w : World) (hn : n ≤ 9223372036854775807) (hm : m ≤ 9223372036854775807) (hx : RdQ w w.heap.size A xs) (hp : RdQ w w.heap.size B ps) (hl : xs.length = n) (hl' : ps.length = m) (ht0 : -9223372036854775808 ≤ t) :
    Calls Try.prog 34 #[vCloth t A n c B m d] w fun e w' => ∃ A' n' c', e = .returned (.tuple #[.slice A' n' c', .int .i64 (ckE t xs ps)]) ∧ RdRs w' w'.heap.size A' (linkR t xs ps) ∧ (linkR t xs ps).length = n' ∧ Below w.heap.size w w' := by
  by_cases hE : ckE t xs ps = 0
  · obtain ⟨T, rfl⟩ := Int.eq_ofNat_of_zero_le (show 0 ≤ t by have := (ckE_ok hE).1; omega)
    have h := linked34 T A B n c m d xs ps w hn hm hx hp hl hl' hE
    have hR : linkR (T : Int) xs ps = setsR xs T := by unfold linkR; rw [if_pos hE]; simp
    rw [hE, hR]
    exact h
  · have C1 := Lib.hid (fun (W : World) (hb : Below w.heap.size w W) => check17 t A B n c m d xs ps W hn hm (hx.up hb) (hp.up hb) hl hl' ht0)
    have hR : linkR t xs ps = [] := by unfold linkR; rw [if_neg hE]
    rw [hR]
    generalize ckE t xs ps = r at *
    have hr : (r != 0) = true := by simpa using hE
    clear hE hR hx hp hl hl'
    go_enter Try.func34, Try.ntmps34
    go_wp2_with fail
    refine (C1.out _ (by go_grown)).mono ?_
    rintro e w1 ⟨rfl, hb1⟩
    have B1 : Below w.heap.size w w1 := bvia (show Below w.heap.size w _ by go_grown) hb1
    clear hb1 C1
    go_wp2
    go_ret2
    exact ⟨none, 0, 0, rfl, fun k r hr => by simp at hr, rfl, B1⟩
theorem RdRs.up {w w' : World} {A : Option Addr} {rows : List (List Int)} (h : RdRs w w.heap.size A rows) (hb : Below w.heap.size w w') : RdRs w' w'.heap.size A rows := fun k r hr => by
  obtain ⟨b, o, h1, h2, X, nx, cx, h3, h4, h5, h6, h7⟩ := h k r hr
  exact ⟨b, o, h1, Nat.lt_of_lt_of_le h2 hb.size, X, nx, cx, (hb.cell h2).trans h3, h4.up hb, h5, h6, h7⟩
theorem endsR_lim (t : Int) (xs ps : List Q4) : (endsR t xs ps).length ≤ 48 := by
  unfold endsR
  split
  · rw [List.length_take, lineTo_len, lineL_len]; omega
  · exact Nat.zero_le _
theorem wordR_lim (t : Int) (xs ps : List Q4) : (wordR t xs ps).length ≤ 20000 := by
  unfold wordR
  split
  · rename_i h
    rw [wordTo_len _ (Nat.le_refl _)]
    exact (ckE_ok h).2.2.1
  · exact Nat.zero_le _
theorem linkR_lim (t : Int) (xs ps : List Q4) : (linkR t xs ps).length ≤ 48 := by
  unfold linkR
  split
  · rename_i h
    have := (ckE_ok h).2.1
    rw [← setsTo_all]
    exact Nat.le_trans (setsTo_len _ _ _) (by omega)
  · exact Nat.zero_le _
set_option maxRecDepth 100000 in
set_option maxHeartbeats 8000000 in
theorem checksOf (hs : ShownSays) (t : Int) (A B : Option Addr) (n c m d : Nat) (xs ps : List Q4) (w : World) (hn : n ≤ 9223372036854775807) (hm : m ≤ 9223372036854775807) (hx : RdQ w w.heap.size A xs) (hp : RdQ w w.heap.size B ps)
    (hl : xs.length = n) (hl' : ps.length = m) (ht0 : -9223372036854775808 ≤ t) :
    Calls Try.prog 8 #[vCloth t A n c B m d] w fun e w' => e = .returned (.bool true) ∧ Below w.heap.size w w' := by
  have SS := Lib.hid hs; clear hs
  have C1 := Lib.hid (fun (W : World) (hb : Below w.heap.size w W) => ends18 t A B n c m d xs ps W hn hm (hx.up hb) (hp.up hb) hl hl' ht0)
  have C2 := Lib.hid (fun (W : World) (hb : Below w.heap.size w W) => ends31 t A B n c m d xs ps W hn hm (hx.up hb) (hp.up hb) hl hl' ht0)
  have C3 := Lib.hid (fun (W : World) (hb : Below w.heap.size w W) => word32 t A B n c m d xs ps W hn hm (hx.up hb) (hp.up hb) hl hl' ht0)
  have C4 := Lib.hid (fun (W : World) (hb : Below w.heap.size w W) => word33 t A B n c m d xs ps W hn hm (hx.up hb) (hp.up hb) hl hl' ht0)
  have C5 := Lib.hid (fun (W : World) (hb : Below w.heap.size w W) => linked30a t A B n c m d xs ps W hn hm (hx.up hb) (hp.up hb) hl hl' ht0)
  have C6 := Lib.hid (fun (W : World) (hb : Below w.heap.size w W) => linked34a t A B n c m d xs ps W hn hm (hx.up hb) (hp.up hb) hl hl' ht0)
  have C7 := Lib.hid (fun (W : World) (hb : Below w.heap.size w W) => check42 t A B n c m d xs ps W hn hm (hx.up hb) (hp.up hb) hl hl' ht0)
  have C8 := Lib.hid (fun (W : World) (hb : Below w.heap.size w W) => check17 t A B n c m d xs ps W hn hm (hx.up hb) (hp.up hb) hl hl' ht0)
  have hE1 := endsR_lim t xs ps
  have hW1 := wordR_lim t xs ps
  have hK1 := linkR_lim t xs ps
  clear hx hp
  generalize ckE t xs ps = r1 at *
  generalize endsR t xs ps = L1 at *
  generalize wordR t xs ps = L2 at *
  generalize linkR t xs ps = R1 at *
  have K0 : Has (w.alloc (.cells #[.int .i64 t, .slice A n c, .slice B m d] 30)) w.heap.size 30 [.int .i64 t, .slice A n c, .slice B m d] := Has.new rfl
  have B0 : Below w.heap.size w (w.alloc (.cells #[.int .i64 t, .slice A n c, .slice B m d] 30)) := by go_grown
  have CG := Lib.hid (great22 t A B n c m d (w.alloc (.cells #[.int .i64 t, .slice A n c, .slice B m d] 30)))
  go_enter Try.func8, Try.ntmps8
  go_wp2_with fail
  refine CG.out.mono ?_
  rintro e w1 ⟨⟨bb, rfl⟩, hb1⟩
  have B1 := bvia B0 hb1
  have HB := Lib.hid (K0.below hb1 K0.lt)
  clear K0 hb1 CG B0
  cases bb with
  | true =>
    go_wp2_with fail
    refine (SS.out _).mono ?_
    rintro e w2 ⟨rfl, hb2⟩
    go_wp2
    go_ret
    exact ⟨rfl, bvia B1 hb2⟩
  | false =>
    have a0 : w1.cell? ⟨w.heap.size, 0, none⟩ = some (.int .i64 t) := HB.out.cell 0
    have a1 : w1.cell? ⟨w.heap.size, 1, none⟩ = some (.slice A n c) := HB.out.cell 1
    have a2 : w1.cell? ⟨w.heap.size, 2, none⟩ = some (.slice B m d) := HB.out.cell 2
    have q := HB.out.lt
    go_wp2_with fail
    refine (C1.out _ B1).mono ?_
    rintro e w2 ⟨A2, n2, c2, rfl, r2, l2, _, _, hb2⟩
    have B2 := bvia B1 hb2
    replace HB := Lib.hid (HB.out.below hb2 HB.out.lt)
    clear hb2 a0 a1 a2 q
    have HR2 := Lib.hid r2; clear r2
    have HL2 := Lib.hid l2
    have hn2 : n2 ≤ 20000 := by omega
    clear l2
    have a0 : w2.cell? ⟨w.heap.size, 0, none⟩ = some (.int .i64 t) := HB.out.cell 0
    have a1 : w2.cell? ⟨w.heap.size, 1, none⟩ = some (.slice A n c) := HB.out.cell 1
    have a2 : w2.cell? ⟨w.heap.size, 2, none⟩ = some (.slice B m d) := HB.out.cell 2
    have q := HB.out.lt
    go_wp2_with fail
    refine (C2.out _ B2).mono ?_
    rintro e w3 ⟨A3, n3, c3, rfl, r3, l3, hb3⟩
    have B3 := bvia B2 hb3
    replace HB := Lib.hid (HB.out.below hb3 HB.out.lt)
    replace HR2 := Lib.hid (HR2.out.up hb3)
    clear hb3 a0 a1 a2 q
    have HR3 := Lib.hid r3; clear r3
    have HL3 := Lib.hid l3
    have hn3 : n3 ≤ 20000 := by omega
    clear l3
    have a0 : w3.cell? ⟨w.heap.size, 0, none⟩ = some (.int .i64 t) := HB.out.cell 0
    have a1 : w3.cell? ⟨w.heap.size, 1, none⟩ = some (.slice A n c) := HB.out.cell 1
    have a2 : w3.cell? ⟨w.heap.size, 2, none⟩ = some (.slice B m d) := HB.out.cell 2
    have q := HB.out.lt
    go_wp2_with fail
    refine (C3.out _ B3).mono ?_
    rintro e w4 ⟨A4, n4, c4, rfl, r4, l4, hb4⟩
    have B4 := bvia B3 hb4
    replace HB := Lib.hid (HB.out.below hb4 HB.out.lt)
    replace HR2 := Lib.hid (HR2.out.up hb4)
    replace HR3 := Lib.hid (HR3.out.up hb4)
    clear hb4 a0 a1 a2 q
    have HR4 := Lib.hid r4; clear r4
    have HL4 := Lib.hid l4
    have hn4 : n4 ≤ 20000 := by omega
    clear l4
    have a0 : w4.cell? ⟨w.heap.size, 0, none⟩ = some (.int .i64 t) := HB.out.cell 0
    have a1 : w4.cell? ⟨w.heap.size, 1, none⟩ = some (.slice A n c) := HB.out.cell 1
    have a2 : w4.cell? ⟨w.heap.size, 2, none⟩ = some (.slice B m d) := HB.out.cell 2
    have q := HB.out.lt
    go_wp2_with fail
    refine (C4.out _ B4).mono ?_
    rintro e w5 ⟨A5, n5, c5, rfl, r5, l5, hb5⟩
    have B5 := bvia B4 hb5
    replace HB := Lib.hid (HB.out.below hb5 HB.out.lt)
    replace HR2 := Lib.hid (HR2.out.up hb5)
    replace HR3 := Lib.hid (HR3.out.up hb5)
    replace HR4 := Lib.hid (HR4.out.up hb5)
    clear hb5 a0 a1 a2 q
    have HR5 := Lib.hid r5; clear r5
    have HL5 := Lib.hid l5
    have hn5 : n5 ≤ 20000 := by omega
    clear l5
    have a0 : w5.cell? ⟨w.heap.size, 0, none⟩ = some (.int .i64 t) := HB.out.cell 0
    have a1 : w5.cell? ⟨w.heap.size, 1, none⟩ = some (.slice A n c) := HB.out.cell 1
    have a2 : w5.cell? ⟨w.heap.size, 2, none⟩ = some (.slice B m d) := HB.out.cell 2
    have q := HB.out.lt
    go_wp2_with fail
    refine (C5.out _ B5).mono ?_
    rintro e w6 ⟨A6, n6, c6, rfl, r6, l6, hb6⟩
    have B6 := bvia B5 hb6
    replace HB := Lib.hid (HB.out.below hb6 HB.out.lt)
    replace HR2 := Lib.hid (HR2.out.up hb6)
    replace HR3 := Lib.hid (HR3.out.up hb6)
    replace HR4 := Lib.hid (HR4.out.up hb6)
    replace HR5 := Lib.hid (HR5.out.up hb6)
    clear hb6 a0 a1 a2 q
    have HR6 := Lib.hid r6; clear r6
    have HL6 := Lib.hid l6
    have hn6 : n6 ≤ 20000 := by omega
    clear l6
    have a0 : w6.cell? ⟨w.heap.size, 0, none⟩ = some (.int .i64 t) := HB.out.cell 0
    have a1 : w6.cell? ⟨w.heap.size, 1, none⟩ = some (.slice A n c) := HB.out.cell 1
    have a2 : w6.cell? ⟨w.heap.size, 2, none⟩ = some (.slice B m d) := HB.out.cell 2
    have q := HB.out.lt
    go_wp2_with fail
    refine (C6.out _ B6).mono ?_
    rintro e w7 ⟨A7, n7, c7, rfl, r7, l7, hb7⟩
    have B7 := bvia B6 hb7
    replace HB := Lib.hid (HB.out.below hb7 HB.out.lt)
    replace HR2 := Lib.hid (HR2.out.up hb7)
    replace HR3 := Lib.hid (HR3.out.up hb7)
    replace HR4 := Lib.hid (HR4.out.up hb7)
    replace HR5 := Lib.hid (HR5.out.up hb7)
    replace HR6 := Lib.hid (HR6.out.up hb7)
    clear hb7 a0 a1 a2 q
    have HR7 := Lib.hid r7; clear r7
    have HL7 := Lib.hid l7
    have hn7 : n7 ≤ 20000 := by omega
    clear l7
    obtain rfl : n6 = n7 := HL6.out.symm.trans HL7.out
    have J1 := Lib.hid (fun (W : World) (hb : Below w7.heap.size w7 W) => sameInts04 A2 A3 n2 n3 c2 c3 _ _ W (by omega) (by omega) (HR2.out.up hb) (HR3.out.up hb) HL2.out HL3.out)
    have J2 := Lib.hid (fun (W : World) (hb : Below w7.heap.size w7 W) => sameInts04 A4 A5 n4 n5 c4 c5 _ _ W (by omega) (by omega) (HR4.out.up hb) (HR5.out.up hb) HL4.out HL5.out)
    simp only [beq_self_eq_true] at J1 J2
    have J7 := Lib.hid (fun (W : World) (hb : Below w7.heap.size w7 W) => C7.out W (bvia B7 hb))
    have J8 := Lib.hid (fun (W : World) (hb : Below w7.heap.size w7 W) => C8.out W (bvia B7 hb))
    clear C1 C2 C3 C4 C5 C6 C7 C8 HR2 HR3 HR4 HR5 HL2 HL3 HL4 HL5
    have a0 : w7.cell? ⟨w.heap.size, 0, none⟩ = some (.int .i64 t) := HB.out.cell 0
    have a1 : w7.cell? ⟨w.heap.size, 1, none⟩ = some (.slice A n c) := HB.out.cell 1
    have a2 : w7.cell? ⟨w.heap.size, 2, none⟩ = some (.slice B m d) := HB.out.cell 2
    have q := HB.out.lt
    go_wp2
    have hxc := fun (x : Ext w7) => x.cell
    refine wp_region_ext (by kernel_rfl) (by kernel_rfl) ?_
    repeat (go_big_quiet_step ((first | (go_at_call 28; exact ext_call (J7.out _ (Ext.below _))) | (go_at_call 35; exact ext_call (J8.out _ (Ext.below _))) | (go_at_call_of 19 (Value.slice A2 n2 c2); exact ext_call (J1.out _ (Ext.below _))) | (go_at_call_of 19 (Value.slice A4 n4 c4); exact ext_call (J2.out _ (Ext.below _))))))
    refine wpQuiet_nil ?_
    intro w8 hw'
    have hb8 := ext_below hw'; clear hw' hxc J1 J2 J7 J8
    have B8 := bvia B7 hb8
    replace HR6 := Lib.hid (HR6.out.up hb8)
    replace HR7 := Lib.hid (HR7.out.up hb8)
    clear hb8 a0 a1 a2 q HB hE1 hW1 hK1 hn2 hn3 hn4 hn5
    go_wp2
    go_loopw [15] (fun i wr => ∃ j : Nat, j ≤ n6 ∧ i = .int .i64 (j : Int) ∧ Below w8.heap.size w8 wr) (fun i _ => n6 - (intOf i).toNat)
    case atStart => exact ⟨0, Nat.zero_le _, rfl, Below.refl _ _⟩
    case round =>
      obtain ⟨j, hj, rfl, hb⟩ := hrel
      obtain ⟨wo, rfl⟩ : ∃ wo : World, wo = wr := ⟨_, rfl⟩
      have hz := hb.size
      by_cases hlt : j < n6
      · obtain ⟨row, hr⟩ := get_of_lt (l := R1) (k := j) (by rw [HL6.out]; exact hlt)
        obtain ⟨bu, ou, rfl, hbu, X, nx, cx, u0, u1, u2, u3, u4⟩ := (HR6.out.up hb) j row hr
        obtain ⟨bv, ov, rfl, hbv, Y, ny, cy, v0, v1, v2, v3, v4⟩ := (HR7.out.up hb) j row hr
        have jn : (j : Int) < (n6 : Int) := by omega
        have J := Lib.hid (fun (W : World) (hb' : Below wo.heap.size wo W) => sameInts04 X Y nx ny cx cy _ _ W (by omega) (by omega) (u1.up hb') (v1.up hb') u2 v2)
        simp only [beq_self_eq_true] at J
        clear hr u1 u2 u3 u4 v1 v2 v3 v4
        have HJ := Lib.hid hlt
        go_wp2
        have hxc := fun (x : Ext wo) => x.cell
        refine wp_region_ext (by kernel_rfl) (by kernel_rfl) ?_
        repeat (go_big_quiet_step ((go_at_call 19; exact ext_call (J.out _ (Ext.below _)))))
        refine wpQuiet_nil ?_
        intro w9 hw'
        have hb9 := ext_below hw'; clear hw' hxc
        have B9 := hb.trans (hb9.mono hz)
        clear hb9
        go_wp2
        go_roundw
        case rel => exact ⟨j + 1, (by have := HJ.out; omega), by go_num, B9⟩
        case measure => (have := HJ.out; first | (simp [intOf]; done) | (simp [intOf]; omega))
      · obtain rfl : n6 = j := by omega
        have B10 := bvia B8 hb
        go_wp2_with fail
        refine (SS.out _).mono ?_
        rintro e w11 ⟨rfl, hb11⟩
        go_wp2
        go_ret
        exact ⟨rfl, bvia B10 hb11⟩
end Go.Proofs.Ytpljaoagiaijiaa
