/-
  Walk of the law ColoursLines.
-/
import Derived.Test.YtnijfkidgndbdaaShn
namespace Go.Proofs.Ytnijfkidgndbdaa
open Go.RowKit
theorem lineE_zero {t : Int} {xs ps : List Q4} {ds : List Int} {nn : Int} (h : chkE t xs ps ds = 0) (h0 : 0 ≤ nn) (h1 : nn ≤ xs.length) : lineE t xs ps ds nn = 0 ∧ lineR t xs ps ds nn = lineTo xs ds nn.toNat := by
  have e : lineE t xs ps ds nn = 0 := by unfold lineE; rw [if_pos h, if_neg (by omega)]
  exact ⟨e, by unfold lineR; rw [if_pos e]⟩
theorem lineE_no {t : Int} {xs ps : List Q4} {ds : List Int} {nn : Int} (h : chkE t xs ps ds ≠ 0) : lineE t xs ps ds nn = chkE t xs ps ds ∧ lineR t xs ps ds nn = [] := by
  have e : lineE t xs ps ds nn = chkE t xs ps ds := by unfold lineE; rw [if_neg h]
  exact ⟨e, by unfold lineR; rw [e, if_neg h]⟩
set_option maxRecDepth 100000 in
set_option maxHeartbeats 8000000 in
theorem linesOf (t : Int) (A B D : Option Addr) (n c m d k e : Nat) (xs ps : List Q4) (ds : List Int) (w : World) (hn : n ≤ 9223372036854775807) (hm : m ≤ 9223372036854775807) (hk : k ≤ 9223372036854775807) (hx : RdQ w w.heap.size A xs) (hp : RdQ w w.heap.size B ps) (hd : RdI w w.heap.size D ds)
    (hl : xs.length = n) (hl' : ps.length = m) (hlk : ds.length = k) (ht0 : -9223372036854775808 ≤ t) (hnc : n ≤ c) :
    Calls Try.prog 5 #[vCloth t A n c B m d, .slice D k e] w fun e w' => e = .returned (.bool true) ∧ Below w.heap.size w w' := by
  have HX := Lib.hid hx; clear hx
  have HP := Lib.hid hp; clear hp
  have HD := Lib.hid hd; clear hd
  have C1 := Lib.hid (fun (nn : Int) (W : World) (hb : Below w.heap.size w W) => line21 t A B D n c m d k e nn xs ps ds W hn hm hk (HX.out.up hb) (HP.out.up hb) (HD.out.up hb) hl hl' hlk ht0 hnc)
  have K0 : Has (w.alloc (.cells #[.int .i64 t, .slice A n c, .slice B m d] 25)) w.heap.size 25 [.int .i64 t, .slice A n c, .slice B m d] := Has.new rfl
  have B0 : Below w.heap.size w (w.alloc (.cells #[.int .i64 t, .slice A n c, .slice B m d] 25)) := by go_grown
  by_cases hfar : farB t n m = true
  · have CF := Lib.hid (far12 t A B n c m d (w.alloc (.cells #[.int .i64 t, .slice A n c, .slice B m d] 25)))
    rw [hfar] at CF
    go_enter Try.func5, Try.ntmps5
    go_wp2_with fail
    refine CF.out.mono ?_
    rintro e w1 ⟨rfl, hb1⟩
    have B1 := bvia B0 hb1
    go_wp2_with fail
    refine (shown13 _).mono ?_
    rintro e w2 ⟨rfl, hb2⟩
    go_wp2
    go_ret
    exact ⟨rfl, bvia B1 hb2⟩
  have CF := Lib.hid (far12 t A B n c m d (w.alloc (.cells #[.int .i64 t, .slice A n c, .slice B m d] 25)))
  rw [show farB t n m = false by simpa using hfar] at CF
  by_cases hlim : (100 : Int) < (k : Int)
  · have dl : decide ((100 : Int) < (k : Int)) = true := decide_eq_true hlim
    clear hlim
    go_enter Try.func5, Try.ntmps5
    go_wp2_with fail
    refine CF.out.mono ?_
    rintro e w1 ⟨rfl, hb1⟩
    have B1 := bvia B0 hb1
    go_wp2_with fail
    refine (shown13 _).mono ?_
    rintro e w2 ⟨rfl, hb2⟩
    go_wp2
    go_ret
    exact ⟨rfl, bvia B1 hb2⟩
  have dl : decide ((100 : Int) < (k : Int)) = false := decide_eq_false hlim
  clear hlim hfar
  by_cases h60 : (60 : Int) < (n : Int)
  · have dn : decide ((60 : Int) < (n : Int)) = true := decide_eq_true h60
    clear h60
    go_enter Try.func5, Try.ntmps5
    go_wp2_with fail
    refine CF.out.mono ?_
    rintro e w1 ⟨rfl, hb1⟩
    have B1 := bvia B0 hb1
    have HB := Lib.hid (K0.below hb1 K0.lt)
    clear K0 hb1 CF B0
    have a0 : w1.cell? ⟨w.heap.size, 0, none⟩ = some (.int .i64 t) := HB.out.cell 0
    have a1 : w1.cell? ⟨w.heap.size, 1, none⟩ = some (.slice A n c) := HB.out.cell 1
    have a2 : w1.cell? ⟨w.heap.size, 2, none⟩ = some (.slice B m d) := HB.out.cell 2
    have q := HB.out.lt
    go_wp2_with fail
    refine (shown13 _).mono ?_
    rintro e w2 ⟨rfl, hb2⟩
    go_wp2
    go_ret
    exact ⟨rfl, bvia B1 hb2⟩
  have dn : decide ((60 : Int) < (n : Int)) = false := decide_eq_false h60
  have hn60 : n ≤ 60 := by omega
  clear h60
  by_cases hE : chkE t xs ps ds = 0
  · obtain ⟨g1, g2, g3⟩ := chkE_ok hE
    have HO := Lib.hid (cross_ok g1)
    have HT := Lib.hid g2
    have ht48 : t ≤ 48 := (ckE_ok g1).2.1
    have ht2 : 2 ≤ t := (ckE_ok g1).1
    have CL : Hid (∀ (j : Nat) (W : World), j ≤ n → Below w.heap.size w W → Calls Try.prog 21 #[vCloth t A n c B m d, .slice D k e, .int .i64 (j : Int)] W (RetIE (lineTo xs ds j) 0 W)) := fun j W hj hb => by
      have h := C1.out (j : Int) W hb
      obtain ⟨e1, e2⟩ := lineE_zero (nn := (j : Int)) hE (by omega) (by rw [hl]; omega)
      rw [e1, e2, show ((j : Nat) : Int).toNat = j by simp] at h
      exact h
    have hkt : (k : Int) = t := by rw [← hlk]; exact g2
    have HL := Lib.hid hl; have HK := Lib.hid hlk; have HKT := Lib.hid hkt
    clear hE g1 g2 g3 C1 hl hl' hkt
    go_enter Try.func5, Try.ntmps5
    go_wp2_with fail
    refine CF.out.mono ?_
    rintro e w1 ⟨rfl, hb1⟩
    have B1 := bvia B0 hb1
    have HB := Lib.hid (K0.below hb1 K0.lt)
    clear K0 hb1 CF B0
    have a0 : w1.cell? ⟨w.heap.size, 0, none⟩ = some (.int .i64 t) := HB.out.cell 0
    have a1 : w1.cell? ⟨w.heap.size, 1, none⟩ = some (.slice A n c) := HB.out.cell 1
    have a2 : w1.cell? ⟨w.heap.size, 2, none⟩ = some (.slice B m d) := HB.out.cell 2
    have q := HB.out.lt
    go_wp2_with fail
    refine (CL.out 0 _ (Nat.zero_le _) B1).mono ?_
    rintro e w2 ⟨A2, n2, c2, rfl, r2, l2, k2, k2', hb2⟩
    have B2 := bvia B1 hb2
    have HB2 := Lib.hid (HB.out.below hb2 HB.out.lt)
    obtain rfl : n2 = k := by rw [← l2]; exact hlk
    have HR := Lib.hid r2; clear r2
    have HLL := Lib.hid l2; clear l2
    have hz2 := k2'
    have a0' : w2.cell? ⟨w.heap.size, 0, none⟩ = some (.int .i64 t) := HB2.out.cell 0
    have a1' : w2.cell? ⟨w.heap.size, 1, none⟩ = some (.slice A n c) := HB2.out.cell 1
    have a2' : w2.cell? ⟨w.heap.size, 2, none⟩ = some (.slice B m d) := HB2.out.cell 2
    have q2 := HB2.out.lt
    clear hb2 HB a0 a1 a2 q
    have J1 := Lib.hid (ints18 A2 D n2 n2 c2 e ds ds w2 hk hk HR.out (HD.out.up B2) HLL.out HK.out)
    simp only [beq_self_eq_true] at J1
    go_wp2_with fail
    refine J1.out.mono ?_
    rintro e' w3 ⟨rfl, hb3⟩
    have B3 := bvia B2 hb3
    have HB3 := Lib.hid (HB2.out.below hb3 q2)
    have HR3 := Lib.hid (HR.out.up hb3)
    clear HB2 a0' a1' a2' q2 hb3 J1 HR k2 k2'
    go_wp2
    go_loopw [5, 7] (fun v i wr => ∃ (j : Nat) (A' : Option Addr) (c' : Nat), 1 ≤ j ∧ j ≤ n + 1 ∧ i = .int .i64 (j : Int) ∧ v = .slice A' n2 c' ∧ RdI wr wr.heap.size A' (lineTo xs ds (j - 1)) ∧ Hid (Has wr w.heap.size 25 [.int .i64 t, .slice A n c, .slice B m d]) ∧ Below w.heap.size w wr) (fun _ i _ => n + 1 - (intOf i).toNat)
    case atStart => exact ⟨1, A2, c2, Nat.le_refl _, by omega, rfl, rfl, HR3.out, HB3, B3⟩
    case round =>
      clear HR3 HB3 B3
      obtain ⟨j, A', c', hj1, hj, rfl, rfl, hR, HB, hb⟩ := hrel
      obtain ⟨wo, rfl⟩ : ∃ wo : World, wo = wr := ⟨_, rfl⟩
      have HR := Lib.hid hR; clear hR
      have a0 : wo.cell? ⟨w.heap.size, 0, none⟩ = some (.int .i64 t) := HB.out.cell 0
      have a1 : wo.cell? ⟨w.heap.size, 1, none⟩ = some (.slice A n c) := HB.out.cell 1
      have a2 : wo.cell? ⟨w.heap.size, 2, none⟩ = some (.slice B m d) := HB.out.cell 2
      have q := HB.out.lt
      by_cases hlt : j ≤ n
      · obtain ⟨p, rfl⟩ : ∃ p, j = p + 1 := ⟨j - 1, by omega⟩
        have ip : IntKind.i64.wrap (((p + 1 : Nat) : Int) - 1) = (p : Int) := by rw [show ((p + 1 : Nat) : Int) - 1 = (p : Int) by omega]; exact IntWalk.i64_in _ (by omega)
        have hpn : (p : Int) < (n : Int) := by omega
        have hp0 : (0 : Int) ≤ (p : Int) := by omega
        have hpt : ((p : Nat) : Int).toNat = p := by simp
        rw [Nat.add_sub_cancel] at HR
        go_wp2_with fail
        refine (CL.out (p + 1) _ hlt hb).mono ?_
        rintro e' w4 ⟨A4, n4, c4, rfl, r4, l4, k4, k4', hb4⟩
        have B4 := bvia hb hb4
        have HB4 := Lib.hid (HB.out.below hb4 q)
        obtain rfl : n4 = n2 := by rw [← l4, lineTo_len, HK.out]
        have HR4 := Lib.hid (HR.out.up hb4)
        have HM4 := Lib.hid r4; clear r4
        have HLM := Lib.hid l4; clear l4
        clear hb4 HB a0 a1 a2 q HR k4 k4'
        have a0 : w4.cell? ⟨w.heap.size, 0, none⟩ = some (.int .i64 t) := HB4.out.cell 0
        have a1 : w4.cell? ⟨w.heap.size, 1, none⟩ = some (.slice A n c) := HB4.out.cell 1
        have a2 : w4.cell? ⟨w.heap.size, 2, none⟩ = some (.slice B m d) := HB4.out.cell 2
        have q := HB4.out.lt
        obtain ⟨x, hx⟩ := get_of_lt (l := xs) (k := p) (by rw [HL.out]; omega)
        obtain ⟨ba, o, rfl, hba, c0, c1, c2, c3⟩ := (HX.out.below (B' := w.heap.size) B4 (Nat.le_refl _)) _ x hx
        obtain ⟨_, hb0, hb1⟩ := HO.out x (mem_of_get hx)
        obtain ⟨i, hi⟩ := Int.eq_ofNat_of_zero_le hb0
        have hiT : i + 1 < n4 := by have := HKT.out; omega
        obtain ⟨va, hva⟩ := get_of_lt (l := lineTo xs ds p) (k := i) (by rw [lineTo_len, HK.out]; omega)
        obtain ⟨vb, hvb⟩ := get_of_lt (l := lineTo xs ds p) (k := i + 1) (by rw [lineTo_len, HK.out]; exact hiT)
        have HS : Hid (lineTo xs ds (p + 1) = ((lineTo xs ds p).set i vb).set (i + 1) va) := by
          show lineTo xs ds (p + 1) = _
          rw [lineTo_succ hx, swapL_get hi hva hvb]
        rw [hi] at c1
        have HVA := Lib.hid hva; have HVB := Lib.hid hvb
        clear hx hi hva hvb hb0 hb1
        have i1 : IntKind.i64.wrap ((i : Int) + 1) = (i : Int) + 1 := IntWalk.i64_in _ (by have := HKT.out; omega)
        have i2 : ((i : Int) + 1).toNat = i + 1 := by omega
        have i3 : (0 : Int) ≤ (i : Int) + 1 := by omega
        have i4 : (i : Int) + 1 < (n4 : Int) := by omega
        have i5 : (i : Int) < (n4 : Int) := by omega
        have i6 : i < n4 := by omega
        have i7 : IntKind.i64.wrap ((n4 : Int) - 2) = (n4 : Int) - 2 := IntWalk.i64_in _ (by have := HKT.out; omega)
        have i8 : decide ((n4 : Int) - 2 < (i : Int)) = false := decide_eq_false (by omega)
        have i9 : decide ((i : Int) < 0) = false := decide_eq_false (by omega)
        have i10 : 0 < n4 := by omega
        go_wp2_with (at_builtin; refine wpList_appI rfl (.tmp 85) (.tmp 86) rfl w4.heap.size (.slice (some ⟨w4.heap.size, 0, none⟩) 0 0) 0 [] rfl (own_lit0 (Nat.le_refl _)) A' n4 c' (lineTo xs ds p) rfl (HR4.out.up (by go_grown)) (by rw [lineTo_len, HK.out]) (by have := HKT.out; omega) (by simp) ?_)
        intro A5 c5 w5 hown hgrow
        have hb5 : Below w4.heap.size w4 w5 := ((Below.refl _ w4).alloc (Nat.le_refl _) (.cells #[] 3)).grown hgrow (by simp) (fun k hk => by simp [Value.ownBlock] at hk; omega)
        try simp only [Nat.zero_add, List.nil_append] at hown
        try rw [Nat.zero_add]
        obtain ⟨g, rest, rfl, hg, hG, _⟩ := own_has hown i10
        have B5 := bvia B4 hb5
        have HB5 := Lib.hid (HB4.out.below hb5 q)
        have HG5 := Lib.hid hG
        have HM5 := Lib.hid (HM4.out.up hb5)
        have HMO := HM4
        have hb5' := hb5
        obtain ⟨bl, ol, rfl, hbl, e0⟩ := HR4.out _ va HVA.out
        obtain ⟨bl', ol', hDD, _, e1⟩ := HR4.out _ vb HVB.out
        injection hDD with hDD; injection hDD with hq1 hq2
        subst hq1 hq2
        have y0 := (hb5.cell (p := ⟨bl, ol + i, none⟩) hbl).trans e0
        have y1 := (hb5.cell (p := ⟨bl, ol + (i + 1), none⟩) hbl).trans e1
        have f0 := hG.free i
        have f1 := hG.free (i + 1)
        have g0 : w5.cell? ⟨g, i, none⟩ = some (.int .i64 va) := by
          rw [hG.cell, List.getElem?_append_left (by simp [lineTo_len, HK.out]; omega), List.getElem?_map, HVA.out]; rfl
        have g1 : w5.cell? ⟨g, i + 1, none⟩ = some (.int .i64 vb) := by
          rw [hG.cell, List.getElem?_append_left (by simp [lineTo_len, HK.out]; omega), List.getElem?_map, HVB.out]; rfl
        have qg := hG.lt
        have nb1 : bl ≠ g := by omega
        have nb2 : g ≠ bl := by omega
        have hgw : w.heap.size < g := by have := B4.size; omega
        clear hown hgrow hb5 hG e0 e1 a0 a1 a2 q HB4 HM4 HR4 c0 c1 c2 c3
        go_wp2
        go_region_held3 (fun W => W.cell? ⟨bl, ol + i, none⟩ = some (.int .i64 va) ∧ W.cell? ⟨bl, ol + (i + 1), none⟩ = some (.int .i64 vb)) (go_keep) (fail)
        have hGG := ((HG5.out.set i (.int .i64 vb)).set (i + 1) (.int .i64 va)).drew
        rw [row_set2 (lineTo xs ds p) rest vb va (by rw [lineTo_len, HK.out]; exact hiT), ← HS.out] at hGG
        have HBB := Lib.hid (((HB5.out.far (b := g) (by omega) i (.int .i64 vb)).far (b := g) (by omega) (i + 1) (.int .i64 va))).drew
        have BB := ((B5.setCell (p := ⟨g, i, none⟩) (by simp; omega) (.int .i64 vb)).setCell (p := ⟨g, i + 1, none⟩) (by simp; omega) (.int .i64 va)).drew
        have bbig := ((hb5'.setCell (p := ⟨g, i, none⟩) (by simpa using hg) (.int .i64 vb)).setCell (p := ⟨g, i + 1, none⟩) (by simpa using hg) (.int .i64 va)).drew
        have HMM := Lib.hid (Rd1.below (Rd1.below HMO.out bbig (Nat.le_refl _)) (Below.refl _ _) bbig.size)
        have hzz := bbig.size
        generalize ((w5.setCell ⟨g, i, none⟩ (.int .i64 vb)).setCell ⟨g, i + 1, none⟩ (.int .i64 va)).drew = w6 at *
        have JJ := Lib.hid (ints18 A4 (some ⟨g, 0, none⟩) n4 n4 c4 c5 (lineTo xs ds (p + 1)) (lineTo xs ds (p + 1)) w6 hk hk HMM.out (rdI_has hGG) HLM.out (by rw [lineTo_len, HK.out]))
        simp only [beq_self_eq_true] at JJ
        clear y0 y1 f0 f1 g0 g1 bbig hb5' HMO HG5 HM5
        go_wp2_with fail
        refine JJ.out.mono ?_
        rintro e' w7 ⟨rfl, hb7⟩
        have HM7 := Lib.hid (HMM.out.up hb7)
        have HB7 := Lib.hid (HBB.out.below hb7 HBB.out.lt)
        have B7 := bvia BB hb7
        clear hb7 HMM HBB JJ
        go_wp2
        go_roundw
        case rel => exact ⟨p + 2, A4, c4, by omega, by omega, by go_num, rfl, by rw [show p + 2 - 1 = p + 1 by omega]; exact HM7.out, HB7, B7⟩
        case measure => first | (simp [intOf]; done) | (simp [intOf]; omega)
      · obtain rfl : j = n + 1 := by omega
        go_wp2_with fail
        refine (shown13 _).mono ?_
        rintro e' w4 ⟨rfl, hb4⟩
        go_wp2
        go_ret
        exact ⟨rfl, bvia hb hb4⟩
  · obtain ⟨e1, e2⟩ := lineE_no (nn := 0) hE
    have CL := Lib.hid (fun (W : World) (hb : Below w.heap.size w W) => C1.out 0 W hb)
    rw [e1, e2] at CL
    generalize chkE t xs ps ds = r at *
    have hr : (r != 0) = true := by simpa using hE
    clear hE e1 e2 C1
    go_enter Try.func5, Try.ntmps5
    go_wp2_with fail
    refine CF.out.mono ?_
    rintro e w1 ⟨rfl, hb1⟩
    have B1 := bvia B0 hb1
    have HB := Lib.hid (K0.below hb1 K0.lt)
    clear K0 hb1 CF B0
    have a0 : w1.cell? ⟨w.heap.size, 0, none⟩ = some (.int .i64 t) := HB.out.cell 0
    have a1 : w1.cell? ⟨w.heap.size, 1, none⟩ = some (.slice A n c) := HB.out.cell 1
    have a2 : w1.cell? ⟨w.heap.size, 2, none⟩ = some (.slice B m d) := HB.out.cell 2
    have q := HB.out.lt
    go_wp2_with fail
    refine (CL.out _ B1).mono ?_
    rintro e w2 ⟨A2, n2, c2, rfl, r2, l2, k2, k2', hb2⟩
    obtain rfl : 0 = n2 := l2
    have B2 := bvia B1 hb2
    clear r2 HB a0 a1 a2 q
    go_wp2_with fail
    refine (shown13 _).mono ?_
    rintro e w3 ⟨rfl, hb3⟩
    go_wp2
    go_ret
    exact ⟨rfl, bvia B2 hb3⟩
end Go.Proofs.Ytnijfkidgndbdaa
