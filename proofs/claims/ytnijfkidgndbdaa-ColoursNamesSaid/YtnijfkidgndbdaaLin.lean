/-
  Contracts of chapter 21: Line of both packages.
-/
import Derived.Test.YtnijfkidgndbdaaAppI
namespace Go.Proofs.Ytnijfkidgndbdaa
open Go.RowKit
def lineE (t : Int) (xs ps : List Q4) (ds : List Int) (nn : Int) : Int := if chkE t xs ps ds = 0 then (if nn < 0 ∨ (xs.length : Int) < nn then 7 else 0) else chkE t xs ps ds
def lineR (t : Int) (xs ps : List Q4) (ds : List Int) (nn : Int) : List Int := if lineE t xs ps ds nn = 0 then lineTo xs ds nn.toNat else []
theorem rdI_has {w : World} {g : Nat} {L : List Int} {rest : List Value} (h : Has w g 3 (L.map vInt ++ rest)) : RdI w w.heap.size (some ⟨g, 0, none⟩) L := fun k x hx => by
  refine ⟨g, 0, rfl, h.lt, ?_⟩
  rw [Nat.zero_add, h.cell, List.getElem?_append_left (by simpa using lt_of_get hx), List.getElem?_map, hx]; rfl
theorem swapL_get {L : List Int} {x : Q4} {i : Nat} {a b : Int} (hi : x.b = (i : Int)) (ha : L[i]? = some a) (hb : L[i + 1]? = some b) : swapL L x = (L.set i b).set (i + 1) a := by
  unfold swapL
  rw [hi, show ((i : Nat) : Int).toNat = i by simp, List.getD_eq_getElem?_getD, List.getD_eq_getElem?_getD, ha, hb]; rfl
set_option maxRecDepth 100000 in
set_option maxHeartbeats 2000000 in
theorem line22 (t : Int) (A B D : Option Addr) (n c m d k e : Nat) (nn : Int) (xs ps : List Q4) (ds : List Int) (w : World) (hn : n ≤ 9223372036854775807) (hm : m ≤ 9223372036854775807) (hk : k ≤ 9223372036854775807) (hx : RdQ w w.heap.size A xs) (hp : RdQ w w.heap.size B ps) (hd : RdI w w.heap.size D ds)
    (hl : xs.length = n) (hl' : ps.length = m) (hlk : ds.length = k) (ht0 : -9223372036854775808 ≤ t) (hnc : n ≤ c) :
    Calls Try.prog 22 #[vCloth t A n c B m d, .slice D k e, .int .i64 nn] w (RetIE (lineR t xs ps ds nn) (lineE t xs ps ds nn) w) := by
  have HX := Lib.hid hx
  have HD := Lib.hid hd
  have C1 := Lib.hid (fun (W : World) (hb : Below w.heap.size w W) => check21 t A B D n c m d k e xs ps ds W hn hm hk (hx.up hb) (hp.up hb) (hd.up hb) hl hl' hlk ht0)
  clear hx hp hd
  have HL := Lib.hid hl
  have HK := Lib.hid hlk; clear hlk
  have K0 : Has (w.alloc (.cells #[.int .i64 t, .slice A n c, .slice B m d] 25)) w.heap.size 25 [.int .i64 t, .slice A n c, .slice B m d] := Has.new rfl
  by_cases hE : chkE t xs ps ds = 0
  · by_cases hbad : nn < 0 ∨ (n : Int) < nn
    · have e1 : lineE t xs ps ds nn = 7 := by unfold lineE; rw [if_pos hE, if_pos (by rw [hl]; exact hbad)]
      have e2 : lineR t xs ps ds nn = [] := by unfold lineR; rw [e1]; rfl
      rw [e1, e2]
      rw [hE] at C1
      clear hE e1 e2
      by_cases h0 : nn < 0
      · have d0 : decide (nn < 0) = true := decide_eq_true h0
        clear h0 hbad
        go_enter Try.func22, Try.ntmps22
        go_wp2_with fail
        refine (C1.out _ (by go_grown)).mono ?_
        rintro e w1 ⟨rfl, hb1⟩
        have B1 := bvia (show Below w.heap.size w _ by go_grown) hb1
        clear K0 hb1 C1
        go_wp2
        go_ret2
        exact ⟨none, 0, 0, rfl, Rd1.nil _ _ _ _, rfl, Nat.le_refl _, by omega, B1⟩
      · have d0 : decide (nn < 0) = false := decide_eq_false h0
        have d1 : decide ((n : Int) < nn) = true := decide_eq_true (by omega)
        clear h0 hbad
        go_enter Try.func22, Try.ntmps22
        go_wp2_with fail
        refine (C1.out _ (by go_grown)).mono ?_
        rintro e w1 ⟨rfl, hb1⟩
        have B1 := bvia (show Below w.heap.size w _ by go_grown) hb1
        have a1 : w1.cell? ⟨w.heap.size, 1, none⟩ = some (.slice A n c) := (K0.below hb1 K0.lt).cell 1
        have q := (K0.below hb1 K0.lt).lt
        clear K0 hb1 C1
        go_wp2
        go_ret2
        exact ⟨none, 0, 0, rfl, Rd1.nil _ _ _ _, rfl, Nat.le_refl _, by omega, B1⟩
    · have e1 : lineE t xs ps ds nn = 0 := by unfold lineE; rw [if_pos hE, if_neg (by rw [hl]; exact hbad)]
      have e2 : lineR t xs ps ds nn = lineTo xs ds nn.toNat := by unfold lineR; rw [e1]; rfl
      rw [e1, e2]
      obtain ⟨g1, g2, g3⟩ := chkE_ok hE
      have HO := Lib.hid (cross_ok g1)
      have hn2 : n ≤ 20000 := by have := (ckE_ok g1).2.2.1; rw [hl] at this; exact this
      have ht2 : 2 ≤ t := (ckE_ok g1).1
      have ht3 : t ≤ 48 := (ckE_ok g1).2.1
      have hk48 : k ≤ 48 := by have := HK.out; omega
      have hkt : (k : Int) = t := by have := HK.out; omega
      have HKT := Lib.hid hkt
      rw [hE] at C1
      obtain ⟨N, rfl⟩ := Int.eq_ofNat_of_zero_le (show 0 ≤ nn by omega)
      have hNn : N ≤ n := by omega
      have eN : ((N : Nat) : Int).toNat = N := by simp
      rw [eN]
      have d0 : decide ((N : Int) < 0) = false := decide_eq_false (by omega)
      have d1 : decide ((n : Int) < (N : Int)) = false := decide_eq_false (by omega)
      have hk0 : 0 < k := by omega
      clear hE hbad e1 e2 g1 g2 g3 hl' hl hkt ht2 ht3
      go_enter Try.func22, Try.ntmps22
      go_wp2_with fail
      refine (C1.out _ (by go_grown)).mono ?_
      rintro e w1 ⟨rfl, hb1⟩
      have B1 := bvia (show Below w.heap.size w _ by go_grown) hb1
      have HC := Lib.hid (K0.below hb1 K0.lt)
      have a0 : w1.cell? ⟨w.heap.size, 0, none⟩ = some (.int .i64 t) := HC.out.cell 0
      have a1 : w1.cell? ⟨w.heap.size, 1, none⟩ = some (.slice A n c) := HC.out.cell 1
      have q := HC.out.lt
      clear K0 hb1 C1
      go_wp2_with (at_builtin; refine wpList_appI rfl (.tmp 32) (.tmp 33) rfl w1.heap.size (.slice (some ⟨w1.heap.size, 0, none⟩) 0 0) 0 [] rfl (own_lit0 (Nat.le_refl _)) D k e ds rfl (HD.out.up (bvia B1 (by go_grown))) HK.out (by omega) (by simp) ?_)
      intro A' c' w2 hown hgrow
      have hb2 : Below w1.heap.size w1 w2 := ((Below.refl _ w1).alloc (Nat.le_refl _) (.cells #[] 3)).grown hgrow (by simp) (fun k hk => by simp [Value.ownBlock] at hk; omega)
      have hcc := own_caps hown
      try simp only [Nat.zero_add, List.nil_append] at hown
      try simp only [Nat.zero_add] at hcc
      obtain ⟨g, rest, rfl, hg, hG, _⟩ := own_has hown hk0
      have HC2 := Lib.hid (HC.out.below hb2 q)
      have B2 := bvia B1 hb2
      have hgw : w.heap.size < g := by omega
      clear hown hgrow a0 a1 hb2 HC q B1
      try rw [Nat.zero_add]
      go_wp2
      go_loopw [10] (fun i wr => ∃ j : Nat, j ≤ N ∧ i = .int .i64 (j : Int) ∧ Has wr g 3 ((lineTo xs ds j).map vInt ++ rest) ∧ Has wr w.heap.size 25 [.int .i64 t, .slice A n c, .slice B m d] ∧ Below w.heap.size w wr) (fun i _ => N - (intOf i).toNat)
      case atStart => exact ⟨0, Nat.zero_le _, rfl, hG, HC2.out, B2⟩
      case round =>
        clear hG HC2 B2
        obtain ⟨j, hj, rfl, hG, hh, hb⟩ := hrel
        obtain ⟨wo, rfl⟩ : ∃ wo : World, wo = wr := ⟨_, rfl⟩
        have HH := Lib.hid hh
        have a0 : wo.cell? ⟨w.heap.size, 0, none⟩ = some (.int .i64 t) := hh.cell 0
        have a1 : wo.cell? ⟨w.heap.size, 1, none⟩ = some (.slice A n c) := hh.cell 1
        have q := hh.lt
        have HG := Lib.hid hG
        have qg := hG.lt
        clear hh hG
        by_cases hlt : j < N
        · have hltn : j < n := by omega
          obtain ⟨x, hx⟩ := get_of_lt (l := xs) (k := j) (by rw [HL.out]; exact hltn)
          obtain ⟨ba, o, rfl, hba, c0, c1, c2, c3⟩ := (HX.out.below (B' := w.heap.size) hb (Nat.le_refl _)) _ x hx
          obtain ⟨_, hb0, hb1⟩ := HO.out x (mem_of_get hx)
          obtain ⟨i, hi⟩ := Int.eq_ofNat_of_zero_le hb0
          have hiT : i + 1 < k := by have := HKT.out; omega
          obtain ⟨va, hva⟩ := get_of_lt (l := lineTo xs ds j) (k := i) (by rw [lineTo_len, HK.out]; omega)
          obtain ⟨vb, hvb⟩ := get_of_lt (l := lineTo xs ds j) (k := i + 1) (by rw [lineTo_len, HK.out]; exact hiT)
          have HS : Hid (lineTo xs ds (j + 1) = ((lineTo xs ds j).set i vb).set (i + 1) va) := by
            show lineTo xs ds (j + 1) = _
            rw [lineTo_succ hx, swapL_get hi hva hvb]
          have g0 : wo.cell? ⟨g, i, none⟩ = some (.int .i64 va) := by
            rw [HG.out.cell, List.getElem?_append_left (by simp [lineTo_len, HK.out]; omega), List.getElem?_map, hva]; rfl
          have g1 : wo.cell? ⟨g, i + 1, none⟩ = some (.int .i64 vb) := by
            rw [HG.out.cell, List.getElem?_append_left (by simp [lineTo_len, HK.out]; omega), List.getElem?_map, hvb]; rfl
          have f0 := HG.out.free i
          have f1 := HG.out.free (i + 1)
          rw [hi] at c1
          clear hx hi hva hvb hb0 hb1
          have i1 : IntKind.i64.wrap ((i : Int) + 1) = (i : Int) + 1 := IntWalk.i64_in _ (by omega)
          have i2 : ((i : Int) + 1).toNat = i + 1 := by omega
          have i3 : (0 : Int) ≤ (i : Int) + 1 := by omega
          have i4 : (i : Int) + 1 < (k : Int) := by omega
          have i5 : (i : Int) < (k : Int) := by omega
          have i6 : i < k := by omega
          go_wp2
          go_roundw
          case rel =>
            refine ⟨j + 1, by omega, by go_num, ?_, (HH.out.far (by omega) _ _).far (by omega) _ _, (hb.setCell (by simp; omega) _).setCell (by simp; omega) _⟩
            rw [HS.out, ← row_set2 _ rest vb va (by rw [lineTo_len, HK.out]; exact hiT)]
            exact (HG.out.set i _).set (i + 1) _
          case measure => first | (simp [intOf]; done) | (simp [intOf]; omega)
        · obtain rfl : j = N := by omega
          go_wp2
          go_ret2
          exact ⟨some ⟨g, 0, none⟩, k, c', rfl, rdI_has HG.out, by rw [lineTo_len, HK.out], hcc.1, hcc.2, hb⟩
  · have e1 : lineE t xs ps ds nn = chkE t xs ps ds := by unfold lineE; rw [if_neg hE]
    have e2 : lineR t xs ps ds nn = [] := by unfold lineR; rw [e1, if_neg hE]
    rw [e1, e2]
    generalize chkE t xs ps ds = r at *
    have hr : (r != 0) = true := by simpa using hE
    have hr' : (r == 0) = false := by simpa using hE
    clear hE e1 e2
    go_enter Try.func22, Try.ntmps22
    go_wp2_with fail
    refine (C1.out _ (by go_grown)).mono ?_
    rintro e w1 ⟨rfl, hb1⟩
    have B1 := bvia (show Below w.heap.size w _ by go_grown) hb1
    clear K0 hb1
    go_wp2
    go_ret2
    exact ⟨none, 0, 0, rfl, Rd1.nil _ _ _ _, rfl, Nat.le_refl _, by omega, B1⟩
set_option maxRecDepth 100000 in
set_option maxHeartbeats 2000000 in
theorem line21 (t : Int) (A B D : Option Addr) (n c m d k e : Nat) (nn : Int) (xs ps : List Q4) (ds : List Int) (w : World) (hn : n ≤ 9223372036854775807) (hm : m ≤ 9223372036854775807) (hk : k ≤ 9223372036854775807) (hx : RdQ w w.heap.size A xs) (hp : RdQ w w.heap.size B ps) (hd : RdI w w.heap.size D ds)
    (hl : xs.length = n) (hl' : ps.length = m) (hlk : ds.length = k) (ht0 : -9223372036854775808 ≤ t) (hnc : n ≤ c) :
    Calls Try.prog 21 #[vCloth t A n c B m d, .slice D k e, .int .i64 nn] w (RetIE (lineR t xs ps ds nn) (lineE t xs ps ds nn) w) := by
  have HX := Lib.hid hx
  have HD := Lib.hid hd
  have C1 := Lib.hid (fun (W : World) (hb : Below w.heap.size w W) => check16 t A B D n c m d k e xs ps ds W hn hm hk (hx.up hb) (hp.up hb) (hd.up hb) hl hl' hlk ht0)
  clear hx hp hd
  have HL := Lib.hid hl
  have HK := Lib.hid hlk; clear hlk
  have K0 : Has (w.alloc (.cells #[.int .i64 t, .slice A n c, .slice B m d] 25)) w.heap.size 25 [.int .i64 t, .slice A n c, .slice B m d] := Has.new rfl
  by_cases hE : chkE t xs ps ds = 0
  · by_cases hbad : nn < 0 ∨ (n : Int) < nn
    · have e1 : lineE t xs ps ds nn = 7 := by unfold lineE; rw [if_pos hE, if_pos (by rw [hl]; exact hbad)]
      have e2 : lineR t xs ps ds nn = [] := by unfold lineR; rw [e1]; rfl
      rw [e1, e2]
      rw [hE] at C1
      clear hE e1 e2
      by_cases h0 : nn < 0
      · have d0 : decide (nn < 0) = true := decide_eq_true h0
        clear h0 hbad
        go_enter Try.func21, Try.ntmps21
        go_wp2_with fail
        refine (C1.out _ (by go_grown)).mono ?_
        rintro e w1 ⟨rfl, hb1⟩
        have B1 := bvia (show Below w.heap.size w _ by go_grown) hb1
        clear K0 hb1 C1
        go_wp2
        go_ret2
        exact ⟨none, 0, 0, rfl, Rd1.nil _ _ _ _, rfl, Nat.le_refl _, by omega, B1⟩
      · have d0 : decide (nn < 0) = false := decide_eq_false h0
        have d1 : decide ((n : Int) < nn) = true := decide_eq_true (by omega)
        clear h0 hbad
        go_enter Try.func21, Try.ntmps21
        go_wp2_with fail
        refine (C1.out _ (by go_grown)).mono ?_
        rintro e w1 ⟨rfl, hb1⟩
        have B1 := bvia (show Below w.heap.size w _ by go_grown) hb1
        have a1 : w1.cell? ⟨w.heap.size, 1, none⟩ = some (.slice A n c) := (K0.below hb1 K0.lt).cell 1
        have q := (K0.below hb1 K0.lt).lt
        clear K0 hb1 C1
        go_wp2
        go_ret2
        exact ⟨none, 0, 0, rfl, Rd1.nil _ _ _ _, rfl, Nat.le_refl _, by omega, B1⟩
    · have e1 : lineE t xs ps ds nn = 0 := by unfold lineE; rw [if_pos hE, if_neg (by rw [hl]; exact hbad)]
      have e2 : lineR t xs ps ds nn = lineTo xs ds nn.toNat := by unfold lineR; rw [e1]; rfl
      rw [e1, e2]
      obtain ⟨g1, g2, g3⟩ := chkE_ok hE
      have HO := Lib.hid (cross_ok g1)
      have hn2 : n ≤ 20000 := by have := (ckE_ok g1).2.2.1; rw [hl] at this; exact this
      have ht2 : 2 ≤ t := (ckE_ok g1).1
      have ht3 : t ≤ 48 := (ckE_ok g1).2.1
      have hk48 : k ≤ 48 := by have := HK.out; omega
      have hkt : (k : Int) = t := by have := HK.out; omega
      have HKT := Lib.hid hkt
      rw [hE] at C1
      obtain ⟨N, rfl⟩ := Int.eq_ofNat_of_zero_le (show 0 ≤ nn by omega)
      have hNn : N ≤ n := by omega
      have eN : ((N : Nat) : Int).toNat = N := by simp
      rw [eN]
      have d0 : decide ((N : Int) < 0) = false := decide_eq_false (by omega)
      have d1 : decide ((n : Int) < (N : Int)) = false := decide_eq_false (by omega)
      have hk0 : 0 < k := by omega
      clear hE hbad e1 e2 g1 g2 g3 hl' hl hkt ht2 ht3
      go_enter Try.func21, Try.ntmps21
      go_wp2_with fail
      refine (C1.out _ (by go_grown)).mono ?_
      rintro e w1 ⟨rfl, hb1⟩
      have B1 := bvia (show Below w.heap.size w _ by go_grown) hb1
      have HC := Lib.hid (K0.below hb1 K0.lt)
      have a0 : w1.cell? ⟨w.heap.size, 0, none⟩ = some (.int .i64 t) := HC.out.cell 0
      have a1 : w1.cell? ⟨w.heap.size, 1, none⟩ = some (.slice A n c) := HC.out.cell 1
      have q := HC.out.lt
      clear K0 hb1 C1
      go_wp2_with fail
      refine (clone48 D k e ds w1 (HD.out.up B1) HK.out (by omega)).mono ?_
      rintro e' w2 ⟨A', k', c', rfl, hown, hlk', hb2⟩
      obtain rfl : k = k' := by rw [← HK.out, ← hlk']
      have hcc := own_caps hown
      obtain ⟨g, rest, rfl, hg, hG, _⟩ := own_has hown hk0
      have HC2 := Lib.hid (HC.out.below hb2 q)
      have B2 := bvia B1 hb2
      have hgw : w.heap.size < g := by omega
      have a1' : w2.cell? ⟨w.heap.size, 1, none⟩ = some (.slice A n c) := HC2.out.cell 1
      have q2 := HC2.out.lt
      have hNc : N ≤ c := by omega
      have hNc' : (N : Int) ≤ (c : Int) := by omega
      have hN0 : (0 : Int) ≤ (N : Int) := by omega
      clear hown a0 a1 hb2 HC q B1 hlk'
      have HG0 := Lib.hid hG; clear hG
      go_wp2
      go_loopw [34] (fun i wr => ∃ j : Nat, j ≤ N ∧ i = .int .i64 (j : Int) ∧ Hid (Has wr g 3 ((lineTo xs ds j).map vInt ++ rest)) ∧ Below w.heap.size w wr) (fun i _ => N - (intOf i).toNat)
      case atStart => exact ⟨0, Nat.zero_le _, rfl, HG0, B2⟩
      case round =>
        clear HG0 HC2 B2 a1' q2
        obtain ⟨j, hj, rfl, HG, hb⟩ := hrel
        obtain ⟨wo, rfl⟩ : ∃ wo : World, wo = wr := ⟨_, rfl⟩
        have qg := HG.out.lt
        by_cases hlt : j < N
        · have hltn : j < n := by omega
          obtain ⟨x, hx⟩ := get_of_lt (l := xs) (k := j) (by rw [HL.out]; exact hltn)
          obtain ⟨ba, o, rfl, hba, c0, c1, c2, c3⟩ := (HX.out.below (B' := w.heap.size) hb (Nat.le_refl _)) _ x hx
          obtain ⟨_, hb0, hb1⟩ := HO.out x (mem_of_get hx)
          obtain ⟨i, hi⟩ := Int.eq_ofNat_of_zero_le hb0
          have hiT : i + 1 < k := by have := HKT.out; omega
          obtain ⟨va, hva⟩ := get_of_lt (l := lineTo xs ds j) (k := i) (by rw [lineTo_len, HK.out]; omega)
          obtain ⟨vb, hvb⟩ := get_of_lt (l := lineTo xs ds j) (k := i + 1) (by rw [lineTo_len, HK.out]; exact hiT)
          have HS : Hid (lineTo xs ds (j + 1) = ((lineTo xs ds j).set i vb).set (i + 1) va) := by
            show lineTo xs ds (j + 1) = _
            rw [lineTo_succ hx, swapL_get hi hva hvb]
          have g0 : wo.cell? ⟨g, i, none⟩ = some (.int .i64 va) := by
            rw [HG.out.cell, List.getElem?_append_left (by simp [lineTo_len, HK.out]; omega), List.getElem?_map, hva]; rfl
          have g1 : wo.cell? ⟨g, i + 1, none⟩ = some (.int .i64 vb) := by
            rw [HG.out.cell, List.getElem?_append_left (by simp [lineTo_len, HK.out]; omega), List.getElem?_map, hvb]; rfl
          rw [hi] at c1
          clear hx hi hva hvb hb0 hb1
          have i1 : IntKind.i64.wrap ((i : Int) + 1) = (i : Int) + 1 := IntWalk.i64_in _ (by omega)
          have i2 : ((i : Int) + 1).toNat = i + 1 := by omega
          have i3 : (0 : Int) ≤ (i : Int) + 1 := by omega
          have i4 : (i : Int) + 1 < (k : Int) := by omega
          have i5 : (i : Int) < (k : Int) := by omega
          have i6 : i < k := by omega
          go_wp2
          have hX1 : Has (wo.alloc (.cells #[.int .i64 x.a, .int .i64 (i : Int), .int .i64 x.c, .int .i64 x.d] 38)) wo.heap.size 38 [.int .i64 x.a, .int .i64 (i : Int), .int .i64 x.c, .int .i64 x.d] := Has.new rfl
          have hBW : Below wo.heap.size wo (wo.alloc (.cells #[.int .i64 x.a, .int .i64 (i : Int), .int .i64 x.c, .int .i64 x.d] 38)) := by go_grown
          generalize (wo.alloc (.cells #[.int .i64 x.a, .int .i64 (i : Int), .int .i64 x.c, .int .i64 x.d] 38)) = W1 at *
          have x1 : W1.cell? ⟨wo.heap.size, 1, none⟩ = some (.int .i64 (i : Int)) := hX1.cell 1
          have y0 := (hBW.cell (p := ⟨g, i, none⟩) qg).trans g0
          have y1 := (hBW.cell (p := ⟨g, i + 1, none⟩) qg).trans g1
          have HG1 := Lib.hid (HG.out.below hBW qg)
          have HX1 := Lib.hid hX1; clear hX1
          have qg1 := HG1.out.lt
          have BB := bvia hb hBW
          clear c0 c1 c2 c3 g0 g1 hBW
          refine wp_region_noPanic ?_
          refine wp_region_B (fun b w' => w'.cell? ⟨wo.heap.size, 1, none⟩ = some (.int .i64 (i : Int)) ∧ g < w'.heap.size ∧ (b = false → w'.cell? ⟨g, i, none⟩ = some (.int .i64 va) ∧ w'.cell? ⟨g, i + 1, none⟩ = some (.int .i64 vb))) 19 (by kernel_rfl) ?_
          have hSS : (fun b w' => w'.cell? ⟨wo.heap.size, 1, none⟩ = some (.int .i64 (i : Int)) ∧ g < w'.heap.size ∧ (b = false → w'.cell? ⟨g, i, none⟩ = some (.int .i64 va) ∧ w'.cell? ⟨g, i + 1, none⟩ = some (.int .i64 vb))) false (W1.drew) := ⟨x1, qg1, fun _ => ⟨y0, y1⟩⟩
          refine wpAnyB_take (i := 0) (oi := _) (v := ?vv1) (fun w' => w'.cell? ⟨wo.heap.size, 1, none⟩ = some (.int .i64 (i : Int)) ∧ g < w'.heap.size) rfl (by kernel_rfl) (by kernel_rfl) (by kernel_rfl) (by kernel_rfl) (by rfl) (fun _ h => ⟨h.1, h.2.1⟩) (.inl fun _ h => ⟨h.1, h.2.1⟩) (fun _ _ _ h => h) (.inl ⟨by rfl, ?hy1⟩) hSS ?_
          case hy1 =>
            intro w' hSw
            try dsimp only at hSw
            go_simp
            all_goals with_reducible rfl
          try simp only [Act.put, List.setIfInBounds_toArray, List.set_cons_zero, List.set_cons_succ]
          refine wpAnyB_take (i := 1) (oi := _) (v := ?vv2) (fun w' => w'.cell? ⟨wo.heap.size, 1, none⟩ = some (.int .i64 (i : Int)) ∧ g < w'.heap.size) rfl (by kernel_rfl) (by kernel_rfl) (by kernel_rfl) (by kernel_rfl) (by rfl) (fun _ h => ⟨h.1, h.2.1⟩) (.inl fun _ h => ⟨h.1, h.2.1⟩) (fun _ _ _ h => h) (.inl ⟨by rfl, ?hy2⟩) hSS ?_
          case hy2 =>
            intro w' hSw
            try dsimp only at hSw
            go_simp
            all_goals with_reducible rfl
          try simp only [Act.put, List.setIfInBounds_toArray, List.set_cons_zero, List.set_cons_succ]
          refine wpAnyB_take (i := 2) (oi := _) (v := ?vv3) (fun w' => w'.cell? ⟨wo.heap.size, 1, none⟩ = some (.int .i64 (i : Int)) ∧ g < w'.heap.size) rfl (by kernel_rfl) (by kernel_rfl) (by kernel_rfl) (by kernel_rfl) (by rfl) (fun _ h => ⟨h.1, h.2.1⟩) (.inl fun _ h => ⟨h.1, h.2.1⟩) (fun _ _ _ h => h) (.inl ⟨by rfl, ?hy3⟩) hSS ?_
          case hy3 =>
            intro w' hSw
            try dsimp only at hSw
            go_simp
            all_goals with_reducible rfl
          try simp only [Act.put, List.setIfInBounds_toArray, List.set_cons_zero, List.set_cons_succ]
          refine wpAnyB_take (i := 3) (oi := _) (v := ?vv4) (fun w' => w'.cell? ⟨wo.heap.size, 1, none⟩ = some (.int .i64 (i : Int)) ∧ g < w'.heap.size) rfl (by kernel_rfl) (by kernel_rfl) (by kernel_rfl) (by kernel_rfl) (by rfl) (fun _ h => ⟨h.1, h.2.1⟩) (.inl fun _ h => ⟨h.1, h.2.1⟩) (fun _ _ _ h => h) (.inl ⟨by rfl, ?hy4⟩) hSS ?_
          case hy4 =>
            intro w' hSw
            try dsimp only at hSw
            go_simp
            all_goals with_reducible rfl
          try simp only [Act.put, List.setIfInBounds_toArray, List.set_cons_zero, List.set_cons_succ]
          refine wpAnyB_take (i := 4) (oi := _) (v := ?vv5) (fun w' => w'.cell? ⟨wo.heap.size, 1, none⟩ = some (.int .i64 (i : Int)) ∧ g < w'.heap.size) rfl (by kernel_rfl) (by kernel_rfl) (by kernel_rfl) (by kernel_rfl) (by rfl) (fun _ h => ⟨h.1, h.2.1⟩) (.inl fun _ h => ⟨h.1, h.2.1⟩) (fun _ _ _ h => h) (.inl ⟨by rfl, ?hy5⟩) hSS ?_
          case hy5 =>
            intro w' hSw
            try dsimp only at hSw
            go_simp
            all_goals with_reducible rfl
          try simp only [Act.put, List.setIfInBounds_toArray, List.set_cons_zero, List.set_cons_succ]
          refine wpAnyB_take (i := 5) (oi := _) (v := ?vv6) (fun w' => w'.cell? ⟨wo.heap.size, 1, none⟩ = some (.int .i64 (i : Int)) ∧ g < w'.heap.size) rfl (by kernel_rfl) (by kernel_rfl) (by kernel_rfl) (by kernel_rfl) (by rfl) (fun _ h => ⟨h.1, h.2.1⟩) (.inl fun _ h => ⟨h.1, h.2.1⟩) (fun _ _ _ h => h) (.inl ⟨by rfl, ?hy6⟩) hSS ?_
          case hy6 =>
            intro w' hSw
            try dsimp only at hSw
            go_simp
            all_goals with_reducible rfl
          try simp only [Act.put, List.setIfInBounds_toArray, List.set_cons_zero, List.set_cons_succ]
          refine wpAnyB_take (i := 6) (oi := _) (v := ?vv7) (fun w' => w'.cell? ⟨wo.heap.size, 1, none⟩ = some (.int .i64 (i : Int)) ∧ g < w'.heap.size) rfl (by kernel_rfl) (by kernel_rfl) (by kernel_rfl) (by kernel_rfl) (by rfl) (fun _ h => ⟨h.1, h.2.1⟩) (.inl fun _ h => ⟨h.1, h.2.1⟩) (fun _ _ _ h => h) (.inl ⟨by rfl, ?hy7⟩) hSS ?_
          case hy7 =>
            intro w' hSw
            try dsimp only at hSw
            go_simp
            all_goals with_reducible rfl
          try simp only [Act.put, List.setIfInBounds_toArray, List.set_cons_zero, List.set_cons_succ]
          refine wpAnyB_take (i := 7) (oi := _) (v := ?vv8) (fun w' => w'.cell? ⟨wo.heap.size, 1, none⟩ = some (.int .i64 (i : Int)) ∧ g < w'.heap.size) rfl (by kernel_rfl) (by kernel_rfl) (by kernel_rfl) (by kernel_rfl) (by rfl) (fun _ h => ⟨h.1, h.2.1⟩) (.inl fun _ h => ⟨h.1, h.2.1⟩) (fun _ _ _ h => h) (.inl ⟨by rfl, ?hy8⟩) hSS ?_
          case hy8 =>
            intro w' hSw
            try dsimp only at hSw
            go_simp
            all_goals with_reducible rfl
          try simp only [Act.put, List.setIfInBounds_toArray, List.set_cons_zero, List.set_cons_succ]
          refine wpAnyB_take (i := 8) (oi := _) (v := ?vv9) (fun w' => w'.cell? ⟨wo.heap.size, 1, none⟩ = some (.int .i64 (i : Int)) ∧ g < w'.heap.size) rfl (by kernel_rfl) (by kernel_rfl) (by kernel_rfl) (by kernel_rfl) (by rfl) (fun _ h => ⟨h.1, h.2.1⟩) (.inl fun _ h => ⟨h.1, h.2.1⟩) (fun _ _ _ h => h) (.inl ⟨by rfl, ?hy9⟩) hSS ?_
          case hy9 =>
            intro w' hSw
            try dsimp only at hSw
            go_simp
            all_goals with_reducible rfl
          try simp only [Act.put, List.setIfInBounds_toArray, List.set_cons_zero, List.set_cons_succ]
          refine wpAnyB_take (i := 9) (oi := _) (v := ?vv10) (fun w' => w'.cell? ⟨wo.heap.size, 1, none⟩ = some (.int .i64 (i : Int)) ∧ g < w'.heap.size) rfl (by kernel_rfl) (by kernel_rfl) (by kernel_rfl) (by kernel_rfl) (by rfl) (fun _ h => ⟨h.1, h.2.1⟩) (.inl fun _ h => ⟨h.1, h.2.1⟩) (fun _ _ _ h => h) (.inl ⟨by rfl, ?hy10⟩) hSS ?_
          case hy10 =>
            intro w' hSw
            try dsimp only at hSw
            go_simp
            all_goals with_reducible rfl
          try simp only [Act.put, List.setIfInBounds_toArray, List.set_cons_zero, List.set_cons_succ]
          refine wpAnyB_take (i := 10) (oi := _) (v := ?vv11) (fun w' => w'.cell? ⟨wo.heap.size, 1, none⟩ = some (.int .i64 (i : Int)) ∧ g < w'.heap.size) rfl (by kernel_rfl) (by kernel_rfl) (by kernel_rfl) (by kernel_rfl) (by rfl) (fun _ h => ⟨h.1, h.2.1⟩) (.inl fun _ h => ⟨h.1, h.2.1⟩) (fun _ _ _ h => h) (.inl ⟨by rfl, ?hy11⟩) hSS ?_
          case hy11 =>
            intro w' hSw
            try dsimp only at hSw
            go_simp
            all_goals with_reducible rfl
          try simp only [Act.put, List.setIfInBounds_toArray, List.set_cons_zero, List.set_cons_succ]
          refine wpAnyB_take (i := 11) (oi := _) (v := ?vv12) (fun w' => w'.cell? ⟨wo.heap.size, 1, none⟩ = some (.int .i64 (i : Int)) ∧ g < w'.heap.size) rfl (by kernel_rfl) (by kernel_rfl) (by kernel_rfl) (by kernel_rfl) (by rfl) (fun _ h => ⟨h.1, h.2.1⟩) (.inl fun _ h => ⟨h.1, h.2.1⟩) (fun _ _ _ h => h) (.inl ⟨by rfl, ?hy12⟩) hSS ?_
          case hy12 =>
            intro w' hSw
            try dsimp only at hSw
            go_simp
            all_goals with_reducible rfl
          try simp only [Act.put, List.setIfInBounds_toArray, List.set_cons_zero, List.set_cons_succ]
          refine wpAnyB_take (i := 12) (oi := _) (v := ?vv13) (fun w' => w'.cell? ⟨wo.heap.size, 1, none⟩ = some (.int .i64 (i : Int)) ∧ g < w'.heap.size ∧ w'.cell? ⟨g, i, none⟩ = some (.int .i64 va) ∧ w'.cell? ⟨g, i + 1, none⟩ = some (.int .i64 vb)) rfl (by kernel_rfl) (by kernel_rfl) (by kernel_rfl) (by kernel_rfl) (by rfl) (fun _ h => ⟨h.1, h.2.1, h.2.2 rfl⟩) (.inr (by kernel_rfl)) (fun _ _ _ h => h) (.inl ⟨by rfl, ?hy13⟩) hSS ?_
          case hy13 =>
            intro w' hSw
            try dsimp only at hSw
            go_simp
            all_goals with_reducible rfl
          try simp only [Act.put, List.setIfInBounds_toArray, List.set_cons_zero, List.set_cons_succ]
          refine wpAnyB_take (i := 13) (oi := _) (v := ?vv14) (fun w' => w'.cell? ⟨wo.heap.size, 1, none⟩ = some (.int .i64 (i : Int)) ∧ g < w'.heap.size) rfl (by kernel_rfl) (by kernel_rfl) (by kernel_rfl) (by kernel_rfl) (by rfl) (fun _ h => ⟨h.1, h.2.1⟩) (.inl fun _ h => ⟨h.1, h.2.1⟩) (fun _ _ _ h => h) (.inl ⟨by rfl, ?hy14⟩) hSS ?_
          case hy14 =>
            intro w' hSw
            try dsimp only at hSw
            go_simp
            all_goals with_reducible rfl
          try simp only [Act.put, List.setIfInBounds_toArray, List.set_cons_zero, List.set_cons_succ]
          refine wpAnyB_take (i := 14) (oi := _) (v := ?vv15) (fun w' => w'.cell? ⟨wo.heap.size, 1, none⟩ = some (.int .i64 (i : Int)) ∧ g < w'.heap.size) rfl (by kernel_rfl) (by kernel_rfl) (by kernel_rfl) (by kernel_rfl) (by rfl) (fun _ h => ⟨h.1, h.2.1⟩) (.inl fun _ h => ⟨h.1, h.2.1⟩) (fun _ _ _ h => h) (.inl ⟨by rfl, ?hy15⟩) hSS ?_
          case hy15 =>
            intro w' hSw
            try dsimp only at hSw
            go_simp
            all_goals with_reducible rfl
          try simp only [Act.put, List.setIfInBounds_toArray, List.set_cons_zero, List.set_cons_succ]
          refine wpAnyB_take (i := 15) (oi := _) (v := ?vv16) (fun w' => w'.cell? ⟨wo.heap.size, 1, none⟩ = some (.int .i64 (i : Int)) ∧ g < w'.heap.size) rfl (by kernel_rfl) (by kernel_rfl) (by kernel_rfl) (by kernel_rfl) (by rfl) (fun _ h => ⟨h.1, h.2.1⟩) (.inl fun _ h => ⟨h.1, h.2.1⟩) (fun _ _ _ h => h) (.inl ⟨by rfl, ?hy16⟩) hSS ?_
          case hy16 =>
            intro w' hSw
            try dsimp only at hSw
            go_simp
            all_goals with_reducible rfl
          try simp only [Act.put, List.setIfInBounds_toArray, List.set_cons_zero, List.set_cons_succ]
          refine wpAnyB_take (i := 16) (oi := _) (v := ?vv17) (fun w' => w'.cell? ⟨wo.heap.size, 1, none⟩ = some (.int .i64 (i : Int)) ∧ g < w'.heap.size) rfl (by kernel_rfl) (by kernel_rfl) (by kernel_rfl) (by kernel_rfl) (by rfl) (fun _ h => ⟨h.1, h.2.1⟩) (.inl fun _ h => ⟨h.1, h.2.1⟩) (fun _ _ _ h => h) (.inl ⟨by rfl, ?hy17⟩) hSS ?_
          case hy17 =>
            intro w' hSw
            try dsimp only at hSw
            go_simp
            all_goals with_reducible rfl
          try simp only [Act.put, List.setIfInBounds_toArray, List.set_cons_zero, List.set_cons_succ]
          refine wpAnyB_take (i := 17) (oi := _) (v := ?vv18) (fun w' => w'.cell? ⟨wo.heap.size, 1, none⟩ = some (.int .i64 (i : Int)) ∧ g < w'.heap.size ∧ w'.cell? ⟨g, i, none⟩ = some (.int .i64 va) ∧ w'.cell? ⟨g, i + 1, none⟩ = some (.int .i64 vb)) rfl (by kernel_rfl) (by kernel_rfl) (by kernel_rfl) (by kernel_rfl) (by rfl) (fun _ h => ⟨h.1, h.2.1, h.2.2 rfl⟩) (.inr (by kernel_rfl)) (fun _ _ _ h => h) (.inl ⟨by rfl, ?hy18⟩) hSS ?_
          case hy18 =>
            intro w' hSw
            try dsimp only at hSw
            go_simp
            all_goals with_reducible rfl
          try simp only [Act.put, List.setIfInBounds_toArray, List.set_cons_zero, List.set_cons_succ]
          refine wpAnyB_take (i := 18) (oi := _) (v := ?vv19) (fun w' => w'.cell? ⟨wo.heap.size, 1, none⟩ = some (.int .i64 (i : Int)) ∧ g < w'.heap.size) rfl (by kernel_rfl) (by kernel_rfl) (by kernel_rfl) (by kernel_rfl) (by rfl) (fun _ h => ⟨h.1, h.2.1⟩) (.inl fun _ h => ⟨h.1, h.2.1⟩) (fun _ _ _ h => h) (.inl ⟨by rfl, ?hy19⟩) hSS ?_
          case hy19 =>
            intro w' hSw
            try dsimp only at hSw
            go_simp
            all_goals with_reducible rfl
          try simp only [Act.put, List.setIfInBounds_toArray, List.set_cons_zero, List.set_cons_succ]
          refine wpAnyB_one (i := 19) true rfl (by kernel_rfl) (by kernel_rfl) ?_
          intro KK hKK
          have f0 := HG1.out.free i
          go_simp
          clear f0
          have h8 := HG1.out.set i (.int .i64 vb)
          have x8 := HX1.out.far (b := g) (by omega) i (.int .i64 vb)
          generalize hw8 : W1.setCell ⟨g, i, none⟩ (.int .i64 vb) = w8 at *
          refine hKK.out _ _ ⟨x8.cell 1, h8.lt, fun hh => by cases hh⟩ ?_
          clear hKK KK
          try simp only [Act.put, List.setIfInBounds_toArray, List.set_cons_zero, List.set_cons_succ]
          refine wpAnyB_one (i := 20) true rfl (by kernel_rfl) (by kernel_rfl) ?_
          intro KK hKK
          go_simp
          refine hKK.out _ _ ⟨x8.cell 1, h8.lt, fun hh => by cases hh⟩ ?_
          clear hKK KK
          try simp only [Act.put, List.setIfInBounds_toArray, List.set_cons_zero, List.set_cons_succ]
          refine wpAnyB_one (i := 21) true rfl (by kernel_rfl) (by kernel_rfl) ?_
          intro KK hKK
          have y0' := h8.free (i + 1)
          have y1' : w8.cell? ⟨g, i + 1, none⟩ = some (.int .i64 vb) := by rw [h8.cell, List.getElem?_set_ne (by omega), ← HG1.out.cell]; exact y1
          go_simp
          clear y0' y1'
          refine hKK.out _ _ ⟨(x8.far (b := g) (by omega) (i + 1) (.int .i64 va)).cell 1, (h8.set (i + 1) (.int .i64 va)).lt, fun hh => by cases hh⟩ ?_
          clear hKK KK
          try simp only [Act.put, List.setIfInBounds_toArray, List.set_cons_zero, List.set_cons_succ]
          refine wpAnyB_done (by kernel_rfl) (NoPanic.normal ?_) _
          go_wp2
          go_roundw
          case rel =>
            refine ⟨j + 1, by omega, by go_num, Lib.hid ?_, ((hw8 ▸ BB.setCell (p := ⟨g, i, none⟩) (by simp; omega) (.int .i64 vb)).setCell (by simp; omega) _).drew⟩
            rw [HS.out, ← row_set2 _ rest vb va (by rw [lineTo_len, HK.out]; exact hiT)]
            exact (h8.set (i + 1) _).drew
          case measure => first | (simp [intOf]; done) | (simp [intOf]; omega)
        · obtain rfl : j = N := by omega
          go_wp2
          go_ret2
          exact ⟨some ⟨g, 0, none⟩, k, c', rfl, rdI_has HG.out, by rw [lineTo_len, HK.out], hcc.1, hcc.2, hb⟩
  · have e1 : lineE t xs ps ds nn = chkE t xs ps ds := by unfold lineE; rw [if_neg hE]
    have e2 : lineR t xs ps ds nn = [] := by unfold lineR; rw [e1, if_neg hE]
    rw [e1, e2]
    generalize chkE t xs ps ds = r at *
    have hr : (r != 0) = true := by simpa using hE
    have hr' : (r == 0) = false := by simpa using hE
    clear hE e1 e2
    go_enter Try.func21, Try.ntmps21
    go_wp2_with fail
    refine (C1.out _ (by go_grown)).mono ?_
    rintro e w1 ⟨rfl, hb1⟩
    have B1 := bvia (show Below w.heap.size w _ by go_grown) hb1
    clear K0 hb1
    go_wp2
    go_ret2
    exact ⟨none, 0, 0, rfl, Rd1.nil _ _ _ _, rfl, Nat.le_refl _, by omega, B1⟩
end Go.Proofs.Ytnijfkidgndbdaa
