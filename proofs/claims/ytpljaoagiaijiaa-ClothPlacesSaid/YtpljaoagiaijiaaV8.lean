/-
  Contracts of chapter 17: Follow and Meet of both packages.
-/
import Derived.Test.YtpljaoagiaijiaaV6
import Derived.Test.YtpljaoagiaijiaaV7
import Derived.Deep.Cut
namespace Go.Proofs.Ytpljaoagiaijiaa
open Go.RowKit
theorem rdI_lits (w : World) (l : List Int) : RdI (w.alloc (.cells (l.map vInt).toArray 3)) (w.alloc (.cells (l.map vInt).toArray 3)).heap.size (some ⟨w.heap.size, 0, none⟩) l := fun k x hx => by
  refine ⟨w.heap.size, 0, rfl, by simp, ?_⟩
  rw [Nat.zero_add, (Has.new rfl).cell, List.getElem?_map, hx]; rfl
theorem ask_one (t : Int) (xs ps : List Q4) (a : Int) : askE t xs ps [a] = if ckE t xs ps = 0 then (if inT t a = true then 0 else 2) else ckE t xs ps := by
  unfold askE
  have : thTo t [a] [a].length = inT t a := by simp [thTo]
  rw [this]
theorem ask_two (t : Int) (xs ps : List Q4) (a b : Int) : askE t xs ps [a, b] = if ckE t xs ps = 0 then (if inT t a = true ∧ inT t b = true ∧ a ≠ b then 0 else 2) else ckE t xs ps := by
  unfold askE
  have : (thTo t [a, b] [a, b].length = true) ↔ (inT t a = true ∧ inT t b = true ∧ a ≠ b) := by
    simp [thTo]
    intro _ _
    exact ⟨fun h e => h e.symm, fun h e => h e.symm⟩
  simp only [this]
set_option maxRecDepth 100000 in
theorem follow23 (t : Int) (A B : Option Addr) (n c m d : Nat) (th : Int) (xs ps : List Q4) (w : World) (hn : n ≤ 9223372036854775807) (hm : m ≤ 9223372036854775807) (hx : RdQ w w.heap.size A xs) (hp : RdQ w w.heap.size B ps)
    (hl : xs.length = n) (hl' : ps.length = m) (ht0 : -9223372036854775808 ≤ t) :
    Calls Try.prog 23 #[vCloth t A n c B m d, .int .i64 th] w (RetIE (ofR t xs ps [th]) (askE t xs ps [th]) w) := by
  have g1 : Below w.heap.size w (w.alloc (.cells #[.int .i64 t, .slice A n c, .slice B m d] 30)) := by go_grown
  have g2 : Below (w.alloc (.cells #[.int .i64 t, .slice A n c, .slice B m d] 30)).heap.size (w.alloc (.cells #[.int .i64 t, .slice A n c, .slice B m d] 30)) ((w.alloc (.cells #[.int .i64 t, .slice A n c, .slice B m d] 30)).alloc (.cells (([th] : List Int).map vInt).toArray 3)) := by go_grown
  have g0 := bvia g1 g2
  have D := rdI_lits (w.alloc (.cells #[.int .i64 t, .slice A n c, .slice B m d] 30)) [th]
  have e2 : (w.alloc (.cells #[.int .i64 t, .slice A n c, .slice B m d] 30)).heap.size = w.heap.size + 1 := by simp
  have C := Lib.hid (of48 t A B (some ⟨(w.alloc (.cells #[.int .i64 t, .slice A n c, .slice B m d] 30)).heap.size, 0, none⟩) n c m d 1 1 xs ps [th] _ hn hm (by omega) (by omega) (hx.up g0) (hp.up g0) D hl hl' rfl ht0)
  rw [e2] at C
  clear hx hp D e2 g1 g2
  go_enter Try.func23, Try.ntmps23
  go_wp2_with fail
  refine C.out.mono ?_
  rintro e w1 ⟨A2, n2, c2, rfl, r2, l2, k2, k2', hb2⟩
  have HR := Lib.hid r2; clear r2
  go_wp2
  go_ret2
  exact ⟨A2, n2, c2, rfl, HR.out, l2, k2, k2', bvia g0 hb2⟩
set_option maxRecDepth 100000 in
theorem meet21 (t : Int) (A B : Option Addr) (n c m d : Nat) (a b : Int) (xs ps : List Q4) (w : World) (hn : n ≤ 9223372036854775807) (hm : m ≤ 9223372036854775807) (hx : RdQ w w.heap.size A xs) (hp : RdQ w w.heap.size B ps)
    (hl : xs.length = n) (hl' : ps.length = m) (ht0 : -9223372036854775808 ≤ t) :
    Calls Try.prog 21 #[vCloth t A n c B m d, .int .i64 a, .int .i64 b] w (RetIE (ofR t xs ps [a, b]) (askE t xs ps [a, b]) w) := by
  have g1 : Below w.heap.size w (w.alloc (.cells #[.int .i64 t, .slice A n c, .slice B m d] 30)) := by go_grown
  have g2 : Below (w.alloc (.cells #[.int .i64 t, .slice A n c, .slice B m d] 30)).heap.size (w.alloc (.cells #[.int .i64 t, .slice A n c, .slice B m d] 30)) ((w.alloc (.cells #[.int .i64 t, .slice A n c, .slice B m d] 30)).alloc (.cells (([a, b] : List Int).map vInt).toArray 3)) := by go_grown
  have g0 := bvia g1 g2
  have D := rdI_lits (w.alloc (.cells #[.int .i64 t, .slice A n c, .slice B m d] 30)) [a, b]
  have e2 : (w.alloc (.cells #[.int .i64 t, .slice A n c, .slice B m d] 30)).heap.size = w.heap.size + 1 := by simp
  have C := Lib.hid (of48 t A B (some ⟨(w.alloc (.cells #[.int .i64 t, .slice A n c, .slice B m d] 30)).heap.size, 0, none⟩) n c m d 2 2 xs ps [a, b] _ hn hm (by omega) (by omega) (hx.up g0) (hp.up g0) D hl hl' rfl ht0)
  rw [e2] at C
  clear hx hp D e2 g1 g2
  go_enter Try.func21, Try.ntmps21
  go_wp2_with fail
  refine C.out.mono ?_
  rintro e w1 ⟨A2, n2, c2, rfl, r2, l2, k2, k2', hb2⟩
  have HR := Lib.hid r2; clear r2
  go_wp2
  go_ret2
  exact ⟨A2, n2, c2, rfl, HR.out, l2, k2, k2', bvia g0 hb2⟩
set_option maxRecDepth 100000 in
theorem has49 (t : Int) (A B : Option Addr) (n c m d : Nat) (th : Int) (r : Bool) (w : World) (h : inT t th = r) :
    Calls Try.prog 49 #[vCloth t A n c B m d, .int .i64 th] w fun e w' => e = .returned (.bool r) ∧ Below w.heap.size w w' := by
  subst h
  by_cases h1 : 0 ≤ th
  · have d1 : decide (0 ≤ th) = true := decide_eq_true h1
    by_cases h2 : th < t
    · have d2 : decide (th < t) = true := decide_eq_true h2
      have e : inT t th = true := by unfold inT; simp; omega
      rw [e]
      clear h1 h2 e
      go_enter Try.func49, Try.ntmps49
      go_wp2
      go_ret
      exact ⟨rfl, by go_grown⟩
    · have d2 : decide (th < t) = false := decide_eq_false h2
      have e : inT t th = false := by unfold inT; simp; omega
      rw [e]
      clear h1 h2 e
      go_enter Try.func49, Try.ntmps49
      go_wp2
      go_ret
      exact ⟨rfl, by go_grown⟩
  · have d1 : decide (0 ≤ th) = false := decide_eq_false h1
    have e : inT t th = false := by unfold inT; simp; omega
    rw [e]
    clear h1 e
    go_enter Try.func49, Try.ntmps49
    go_wp2
    go_ret
    exact ⟨rfl, by go_grown⟩
set_option maxRecDepth 100000 in
set_option maxHeartbeats 4000000 in
theorem follow24 (t : Int) (A B : Option Addr) (n c m d : Nat) (th : Int) (xs ps : List Q4) (w : World) (hn : n ≤ 9223372036854775807) (hm : m ≤ 9223372036854775807) (hx : RdQ w w.heap.size A xs) (hp : RdQ w w.heap.size B ps)
    (hl : xs.length = n) (hl' : ps.length = m) (ht0 : -9223372036854775808 ≤ t) :
    Calls Try.prog 24 #[vCloth t A n c B m d, .int .i64 th] w (RetIE (ofR t xs ps [th]) (askE t xs ps [th]) w) := by
  have HX := Lib.hid hx
  have C1 := Lib.hid (fun (W : World) (hb : Below w.heap.size w W) => check17 t A B n c m d xs ps W hn hm (hx.up hb) (hp.up hb) hl hl' ht0)
  clear hx hp
  have K0 : Has (w.alloc (.cells #[.int .i64 t, .slice A n c, .slice B m d] 30)) w.heap.size 30 [.int .i64 t, .slice A n c, .slice B m d] := Has.new rfl
  by_cases hE : ckE t xs ps = 0
  · cases hi : inT t th with
    | false =>
      have Ith := Lib.hid hi
      have e1 : askE t xs ps [th] = 2 := by rw [ask_one, if_pos hE, if_neg (by simp; simp_all)]
      have e2 : ofR t xs ps [th] = [] := by unfold ofR; rw [e1]; rfl
      rw [e1, e2]
      rw [hE] at C1
      clear e1 e2 hE
      clear hi
      go_enter Try.func24, Try.ntmps24
      go_wp2_with fail
      refine (C1.out _ (by go_grown)).mono ?_
      rintro e w1 ⟨rfl, hb1⟩
      have B1 := bvia (show Below w.heap.size w _ by go_grown) hb1
      have HC := Lib.hid (K0.below hb1 K0.lt)
      clear K0 hb1 C1
      have a0 : w1.cell? ⟨w.heap.size, 0, none⟩ = some (.int .i64 t) := HC.out.cell 0
      have a1 : w1.cell? ⟨w.heap.size, 1, none⟩ = some (.slice A n c) := HC.out.cell 1
      have a2 : w1.cell? ⟨w.heap.size, 2, none⟩ = some (.slice B m d) := HC.out.cell 2
      have q := HC.out.lt
      go_wp2_with fail
      refine (has49 t A B n c m d th false _ Ith.out).mono ?_
      rintro e w2 ⟨rfl, hb2⟩
      have B2 := bvia B1 hb2
      replace HC := Lib.hid (HC.out.below hb2 HC.out.lt)
      clear a0 a1 a2 q hb2
      have a0 : w2.cell? ⟨w.heap.size, 0, none⟩ = some (.int .i64 t) := HC.out.cell 0
      have a1 : w2.cell? ⟨w.heap.size, 1, none⟩ = some (.slice A n c) := HC.out.cell 1
      have a2 : w2.cell? ⟨w.heap.size, 2, none⟩ = some (.slice B m d) := HC.out.cell 2
      have q := HC.out.lt
      go_wp2
      go_ret2
      exact ⟨none, 0, 0, rfl, Rd1.nil _ _ _ _, rfl, Nat.le_refl _, by omega, B2⟩
    | true =>
      have Ith := Lib.hid hi
      have e1 : askE t xs ps [th] = 0 := by rw [ask_one, if_pos hE, if_pos hi]
      have e2 : ofR t xs ps [th] = ofTo xs [th] n := by unfold ofR; rw [if_pos e1, hl]
      have hn2 : n ≤ 20000 := by have := (ckE_ok hE).2.2.1; rw [hl] at this; exact this
      rw [e1, e2]
      rw [hE] at C1
      have HL := Lib.hid hl
      clear e1 e2 hE hl hl'
      clear hi
      go_enter Try.func24, Try.ntmps24
      go_wp2_with fail
      refine (C1.out _ (by go_grown)).mono ?_
      rintro e w1 ⟨rfl, hb1⟩
      have B1 := bvia (show Below w.heap.size w _ by go_grown) hb1
      have HC := Lib.hid (K0.below hb1 K0.lt)
      clear K0 hb1 C1
      have a0 : w1.cell? ⟨w.heap.size, 0, none⟩ = some (.int .i64 t) := HC.out.cell 0
      have a1 : w1.cell? ⟨w.heap.size, 1, none⟩ = some (.slice A n c) := HC.out.cell 1
      have a2 : w1.cell? ⟨w.heap.size, 2, none⟩ = some (.slice B m d) := HC.out.cell 2
      have q := HC.out.lt
      go_wp2_with fail
      refine (has49 t A B n c m d th true _ Ith.out).mono ?_
      rintro e w2 ⟨rfl, hb2⟩
      have B2 := bvia B1 hb2
      replace HC := Lib.hid (HC.out.below hb2 HC.out.lt)
      clear a0 a1 a2 q hb2
      have a0 : w2.cell? ⟨w.heap.size, 0, none⟩ = some (.int .i64 t) := HC.out.cell 0
      have a1 : w2.cell? ⟨w.heap.size, 1, none⟩ = some (.slice A n c) := HC.out.cell 1
      have a2 : w2.cell? ⟨w.heap.size, 2, none⟩ = some (.slice B m d) := HC.out.cell 2
      have q := HC.out.lt
      have BK := B2
      have HCK := HC
      have HX1 := Lib.hid (HX.out.up B2)
      clear HX
      go_wp2
      go_loopw [7, 8] (fun v i wr => ∃ (j l : Nat) (A' : Option Addr) (c' : Nat), j ≤ n ∧ l ≤ j ∧ i = .int .i64 (j : Int) ∧ v = .slice A' l c' ∧ Hid ((ofTo xs [th] j).length = l) ∧ Hid (wr.ownsRow w2.heap.size 3 1 v l ((ofTo xs [th] j).map vInt)) ∧ Hid (Has wr w.heap.size 30 [.int .i64 t, .slice A n c, .slice B m d]) ∧ Below w2.heap.size w2 wr) (fun _ i _ => n - (intOf i).toNat)
      case atStart => exact ⟨0, 0, none, 0, Nat.zero_le _, Nat.le_refl _, rfl, rfl, Lib.hid rfl, Lib.hid (World.ownsRow_nil _ _ _ _), HC, Below.refl _ _⟩
      case round =>
        clear HC a0 a1 a2 q
        obtain ⟨j, l, A', c', hj, hlj, rfl, rfl, HLL, HO, HC, hb⟩ := hrel
        obtain ⟨wo, rfl⟩ : ∃ wo : World, wo = wr := ⟨_, rfl⟩
        have hz := hb.size
        have a1 : wo.cell? ⟨w.heap.size, 1, none⟩ = some (.slice A n c) := HC.out.cell 1
        have q := HC.out.lt
        by_cases hlt : j < n
        · obtain ⟨x, hx⟩ := get_of_lt (l := xs) (k := j) (by rw [HL.out]; exact hlt)
          obtain ⟨ba, o, rfl, hba, c0, c1, c2, c3⟩ := (HX1.out.up hb) _ x hx
          have HXk := Lib.hid hx; clear hx
          have jn : (j : Int) < (n : Int) := by omega

          by_cases h1 : x.c = th
          · have d1 : (x.c == th) = true := by simpa using h1
            have HS := Lib.hid (ofTo_yes (ths := [th]) HXk.out (by simp [ofP, h1]))
            clear h1
            go_wp2_with (at_builtin; refine wpList_app rfl (.tmp 47) (.tmp 49) _ rfl w2.heap.size 3 (.int .i64 0) 1 8 Try.underlying35 infoInt rfl (by omega) (by omega) _ _ _ rfl (HO.out.alloc _) wo.heap.size [vInt (j : Int)] rfl rfl (news_new _ _ _) (one_int _ _) (by omega) (by simp; omega) ?_; intro ga cap1 w7 hg1 hown1 hgrow1 hor1)
            have hb7 := (hb.alloc hz _).grown hgrow1 (by simp; omega) (fun kk hk => (HO.out.lt kk hk).1)
            have HB7 := Lib.hid hb7
            have HC7 := Lib.hid ((HCK.out.below hb7 HCK.out.lt))
            clear hb7
            go_roundw
            case rel => exact ⟨j + 1, l + 1, some ⟨ga, 0, none⟩, cap1, by omega, by omega, by go_num, rfl, Lib.hid (by rw [HS.out, List.length_append, HLL.out]; rfl), Lib.hid (by rw [HS.out]; simpa using hown1), HC7, HB7.out⟩
            case measure => first | (simp [intOf]; done) | (simp [intOf]; omega)
          · have d1 : (x.c == th) = false := by simpa using h1
            by_cases h2 : x.d = th
            · have d2 : (x.d == th) = true := by simpa using h2
              have HS := Lib.hid (ofTo_yes (ths := [th]) HXk.out (by simp [ofP, h2]))
              clear h1 h2
              go_wp2_with (at_builtin; refine wpList_app rfl (.tmp 47) (.tmp 49) _ rfl w2.heap.size 3 (.int .i64 0) 1 8 Try.underlying35 infoInt rfl (by omega) (by omega) _ _ _ rfl (HO.out.alloc _) wo.heap.size [vInt (j : Int)] rfl rfl (news_new _ _ _) (one_int _ _) (by omega) (by simp; omega) ?_; intro ga cap1 w7 hg1 hown1 hgrow1 hor1)
              have hb7 := (hb.alloc hz _).grown hgrow1 (by simp; omega) (fun kk hk => (HO.out.lt kk hk).1)
              have HB7 := Lib.hid hb7
              have HC7 := Lib.hid ((HCK.out.below hb7 HCK.out.lt))
              clear hb7
              go_roundw
              case rel => exact ⟨j + 1, l + 1, some ⟨ga, 0, none⟩, cap1, by omega, by omega, by go_num, rfl, Lib.hid (by rw [HS.out, List.length_append, HLL.out]; rfl), Lib.hid (by rw [HS.out]; simpa using hown1), HC7, HB7.out⟩
              case measure => first | (simp [intOf]; done) | (simp [intOf]; omega)
            · have d2 : (x.d == th) = false := by simpa using h2
              have HS := Lib.hid (ofTo_no (ths := [th]) HXk.out (by simp [ofP]; exact ⟨fun h => h1 h.symm, fun h => h2 h.symm⟩))
              clear h1 h2
              go_wp2
              go_roundw
              case rel => exact ⟨j + 1, l, A', c', by omega, by omega, by go_num, rfl, Lib.hid (by rw [HS.out, HLL.out]), Lib.hid (by rw [HS.out]; exact HO.out), HC, hb⟩
              case measure => first | (simp [intOf]; done) | (simp [intOf]; omega)
        · obtain rfl : n = j := by omega
          have hcc := own_caps HO.out
          go_wp2
          go_ret2
          exact ⟨A', l, c', rfl, own_rd1 HO.out, HLL.out, hcc.1, hcc.2, bvia BK hb⟩
  · have e1 : askE t xs ps [th] = ckE t xs ps := by rw [ask_one, if_neg hE]
    have e2 : ofR t xs ps [th] = [] := by unfold ofR; rw [e1, if_neg hE]
    rw [e1, e2]
    generalize ckE t xs ps = r at *
    have hr : (r != 0) = true := by simpa using hE
    have hr' : (r == 0) = false := by simpa using hE
    clear hE e1 e2
    go_enter Try.func24, Try.ntmps24
    go_wp2_with fail
    refine (C1.out _ (by go_grown)).mono ?_
    rintro e w1 ⟨rfl, hb1⟩
    have B1 := bvia (show Below w.heap.size w _ by go_grown) hb1
    have HC := Lib.hid (K0.below hb1 K0.lt)
    clear K0 hb1 C1
    have a0 : w1.cell? ⟨w.heap.size, 0, none⟩ = some (.int .i64 t) := HC.out.cell 0
    have a1 : w1.cell? ⟨w.heap.size, 1, none⟩ = some (.slice A n c) := HC.out.cell 1
    have a2 : w1.cell? ⟨w.heap.size, 2, none⟩ = some (.slice B m d) := HC.out.cell 2
    have q := HC.out.lt
    go_wp2
    go_ret2
    exact ⟨none, 0, 0, rfl, Rd1.nil _ _ _ _, rfl, Nat.le_refl _, by omega, B1⟩
theorem no_one {x : Q4} {a b : Int} (h1 : ¬ x.c = a) (h3 : ¬ x.d = a) : [a, b].all (ofP x) = false := by
  have q1 : ofP x a = false := by unfold ofP; simp; exact ⟨fun h => h1 h.symm, fun h => h3 h.symm⟩
  simp [q1]
theorem no_two {x : Q4} {a b : Int} (hab : a ≠ b) (h1 : ¬ x.c = a) (h2 : ¬ x.c = b) : [a, b].all (ofP x) = false := by
  by_cases h3 : x.d = a
  · have q1 : ofP x b = false := by unfold ofP; simp; exact ⟨fun h => h2 h.symm, fun h => hab (h3.symm.trans h.symm)⟩
    simp [q1]
  · exact no_one h1 h3
set_option maxRecDepth 100000 in
set_option maxHeartbeats 4000000 in
theorem meet25 (t : Int) (A B : Option Addr) (n c m d : Nat) (a b : Int) (xs ps : List Q4) (w : World) (hn : n ≤ 9223372036854775807) (hm : m ≤ 9223372036854775807) (hx : RdQ w w.heap.size A xs) (hp : RdQ w w.heap.size B ps)
    (hl : xs.length = n) (hl' : ps.length = m) (ht0 : -9223372036854775808 ≤ t) :
    Calls Try.prog 25 #[vCloth t A n c B m d, .int .i64 a, .int .i64 b] w (RetIE (ofR t xs ps [a, b]) (askE t xs ps [a, b]) w) := by
  have HX := Lib.hid hx
  have C1 := Lib.hid (fun (W : World) (hb : Below w.heap.size w W) => check17 t A B n c m d xs ps W hn hm (hx.up hb) (hp.up hb) hl hl' ht0)
  clear hx hp
  have K0 : Has (w.alloc (.cells #[.int .i64 t, .slice A n c, .slice B m d] 30)) w.heap.size 30 [.int .i64 t, .slice A n c, .slice B m d] := Has.new rfl
  by_cases hE : ckE t xs ps = 0
  · cases hi : inT t a with
    | false =>
      have Ia := Lib.hid hi
      have e1 : askE t xs ps [a, b] = 2 := by rw [ask_two, if_pos hE, if_neg (by simp; simp_all)]
      have e2 : ofR t xs ps [a, b] = [] := by unfold ofR; rw [e1]; rfl
      rw [e1, e2]
      rw [hE] at C1
      clear e1 e2 hE
      clear hi
      go_enter Try.func25, Try.ntmps25
      go_wp2_with fail
      refine (C1.out _ (by go_grown)).mono ?_
      rintro e w1 ⟨rfl, hb1⟩
      have B1 := bvia (show Below w.heap.size w _ by go_grown) hb1
      have HC := Lib.hid (K0.below hb1 K0.lt)
      clear K0 hb1 C1
      have a0 : w1.cell? ⟨w.heap.size, 0, none⟩ = some (.int .i64 t) := HC.out.cell 0
      have a1 : w1.cell? ⟨w.heap.size, 1, none⟩ = some (.slice A n c) := HC.out.cell 1
      have a2 : w1.cell? ⟨w.heap.size, 2, none⟩ = some (.slice B m d) := HC.out.cell 2
      have q := HC.out.lt
      go_wp2_with fail
      refine (has49 t A B n c m d a false _ Ia.out).mono ?_
      rintro e w2 ⟨rfl, hb2⟩
      have B2 := bvia B1 hb2
      replace HC := Lib.hid (HC.out.below hb2 HC.out.lt)
      clear a0 a1 a2 q hb2
      have a0 : w2.cell? ⟨w.heap.size, 0, none⟩ = some (.int .i64 t) := HC.out.cell 0
      have a1 : w2.cell? ⟨w.heap.size, 1, none⟩ = some (.slice A n c) := HC.out.cell 1
      have a2 : w2.cell? ⟨w.heap.size, 2, none⟩ = some (.slice B m d) := HC.out.cell 2
      have q := HC.out.lt
      go_wp2
      go_ret2
      exact ⟨none, 0, 0, rfl, Rd1.nil _ _ _ _, rfl, Nat.le_refl _, by omega, B2⟩
    | true =>
      have Ia := Lib.hid hi
      cases hi2 : inT t b with
      | false =>
        have Ib := Lib.hid hi2
        have e1 : askE t xs ps [a, b] = 2 := by rw [ask_two, if_pos hE, if_neg (by simp; simp_all)]
        have e2 : ofR t xs ps [a, b] = [] := by unfold ofR; rw [e1]; rfl
        rw [e1, e2]
        rw [hE] at C1
        clear e1 e2 hE
        clear hi hi2
        go_enter Try.func25, Try.ntmps25
        go_wp2_with fail
        refine (C1.out _ (by go_grown)).mono ?_
        rintro e w1 ⟨rfl, hb1⟩
        have B1 := bvia (show Below w.heap.size w _ by go_grown) hb1
        have HC := Lib.hid (K0.below hb1 K0.lt)
        clear K0 hb1 C1
        have a0 : w1.cell? ⟨w.heap.size, 0, none⟩ = some (.int .i64 t) := HC.out.cell 0
        have a1 : w1.cell? ⟨w.heap.size, 1, none⟩ = some (.slice A n c) := HC.out.cell 1
        have a2 : w1.cell? ⟨w.heap.size, 2, none⟩ = some (.slice B m d) := HC.out.cell 2
        have q := HC.out.lt
        go_wp2_with fail
        refine (has49 t A B n c m d a true _ Ia.out).mono ?_
        rintro e w2 ⟨rfl, hb2⟩
        have B2 := bvia B1 hb2
        replace HC := Lib.hid (HC.out.below hb2 HC.out.lt)
        clear a0 a1 a2 q hb2
        have a0 : w2.cell? ⟨w.heap.size, 0, none⟩ = some (.int .i64 t) := HC.out.cell 0
        have a1 : w2.cell? ⟨w.heap.size, 1, none⟩ = some (.slice A n c) := HC.out.cell 1
        have a2 : w2.cell? ⟨w.heap.size, 2, none⟩ = some (.slice B m d) := HC.out.cell 2
        have q := HC.out.lt
        go_wp2_with fail
        refine (has49 t A B n c m d b false _ Ib.out).mono ?_
        rintro e w3 ⟨rfl, hb3⟩
        have B3 := bvia B2 hb3
        replace HC := Lib.hid (HC.out.below hb3 HC.out.lt)
        clear a0 a1 a2 q hb3
        have a0 : w3.cell? ⟨w.heap.size, 0, none⟩ = some (.int .i64 t) := HC.out.cell 0
        have a1 : w3.cell? ⟨w.heap.size, 1, none⟩ = some (.slice A n c) := HC.out.cell 1
        have a2 : w3.cell? ⟨w.heap.size, 2, none⟩ = some (.slice B m d) := HC.out.cell 2
        have q := HC.out.lt
        go_wp2
        go_ret2
        exact ⟨none, 0, 0, rfl, Rd1.nil _ _ _ _, rfl, Nat.le_refl _, by omega, B3⟩
      | true =>
        have Ib := Lib.hid hi2
        by_cases heq : a = b
        · have deq : (a == b) = true := by simpa using heq
          have e1 : askE t xs ps [a, b] = 2 := by rw [ask_two, if_pos hE, if_neg (by simp; simp_all)]
          have e2 : ofR t xs ps [a, b] = [] := by unfold ofR; rw [e1]; rfl
          rw [e1, e2]
          rw [hE] at C1
          clear e1 e2 hE
          clear hi hi2 heq
          go_enter Try.func25, Try.ntmps25
          go_wp2_with fail
          refine (C1.out _ (by go_grown)).mono ?_
          rintro e w1 ⟨rfl, hb1⟩
          have B1 := bvia (show Below w.heap.size w _ by go_grown) hb1
          have HC := Lib.hid (K0.below hb1 K0.lt)
          clear K0 hb1 C1
          have a0 : w1.cell? ⟨w.heap.size, 0, none⟩ = some (.int .i64 t) := HC.out.cell 0
          have a1 : w1.cell? ⟨w.heap.size, 1, none⟩ = some (.slice A n c) := HC.out.cell 1
          have a2 : w1.cell? ⟨w.heap.size, 2, none⟩ = some (.slice B m d) := HC.out.cell 2
          have q := HC.out.lt
          go_wp2_with fail
          refine (has49 t A B n c m d a true _ Ia.out).mono ?_
          rintro e w2 ⟨rfl, hb2⟩
          have B2 := bvia B1 hb2
          replace HC := Lib.hid (HC.out.below hb2 HC.out.lt)
          clear a0 a1 a2 q hb2
          have a0 : w2.cell? ⟨w.heap.size, 0, none⟩ = some (.int .i64 t) := HC.out.cell 0
          have a1 : w2.cell? ⟨w.heap.size, 1, none⟩ = some (.slice A n c) := HC.out.cell 1
          have a2 : w2.cell? ⟨w.heap.size, 2, none⟩ = some (.slice B m d) := HC.out.cell 2
          have q := HC.out.lt
          go_wp2_with fail
          refine (has49 t A B n c m d b true _ Ib.out).mono ?_
          rintro e w3 ⟨rfl, hb3⟩
          have B3 := bvia B2 hb3
          replace HC := Lib.hid (HC.out.below hb3 HC.out.lt)
          clear a0 a1 a2 q hb3
          have a0 : w3.cell? ⟨w.heap.size, 0, none⟩ = some (.int .i64 t) := HC.out.cell 0
          have a1 : w3.cell? ⟨w.heap.size, 1, none⟩ = some (.slice A n c) := HC.out.cell 1
          have a2 : w3.cell? ⟨w.heap.size, 2, none⟩ = some (.slice B m d) := HC.out.cell 2
          have q := HC.out.lt
          go_wp2
          go_ret2
          exact ⟨none, 0, 0, rfl, Rd1.nil _ _ _ _, rfl, Nat.le_refl _, by omega, B3⟩
        · have deq : (a == b) = false := by simpa using heq
          have hab := Lib.hid (show a ≠ b from heq)
          have e1 : askE t xs ps [a, b] = 0 := by rw [ask_two, if_pos hE, if_pos ⟨hi, hi2, heq⟩]
          have e2 : ofR t xs ps [a, b] = ofTo xs [a, b] n := by unfold ofR; rw [if_pos e1, hl]
          have hn2 : n ≤ 20000 := by have := (ckE_ok hE).2.2.1; rw [hl] at this; exact this
          rw [e1, e2]
          rw [hE] at C1
          have HL := Lib.hid hl
          clear e1 e2 hE hl hl'
          clear hi hi2 heq
          go_enter Try.func25, Try.ntmps25
          go_wp2_with fail
          refine (C1.out _ (by go_grown)).mono ?_
          rintro e w1 ⟨rfl, hb1⟩
          have B1 := bvia (show Below w.heap.size w _ by go_grown) hb1
          have HC := Lib.hid (K0.below hb1 K0.lt)
          clear K0 hb1 C1
          have a0 : w1.cell? ⟨w.heap.size, 0, none⟩ = some (.int .i64 t) := HC.out.cell 0
          have a1 : w1.cell? ⟨w.heap.size, 1, none⟩ = some (.slice A n c) := HC.out.cell 1
          have a2 : w1.cell? ⟨w.heap.size, 2, none⟩ = some (.slice B m d) := HC.out.cell 2
          have q := HC.out.lt
          go_wp2_with fail
          refine (has49 t A B n c m d a true _ Ia.out).mono ?_
          rintro e w2 ⟨rfl, hb2⟩
          have B2 := bvia B1 hb2
          replace HC := Lib.hid (HC.out.below hb2 HC.out.lt)
          clear a0 a1 a2 q hb2
          have a0 : w2.cell? ⟨w.heap.size, 0, none⟩ = some (.int .i64 t) := HC.out.cell 0
          have a1 : w2.cell? ⟨w.heap.size, 1, none⟩ = some (.slice A n c) := HC.out.cell 1
          have a2 : w2.cell? ⟨w.heap.size, 2, none⟩ = some (.slice B m d) := HC.out.cell 2
          have q := HC.out.lt
          go_wp2_with fail
          refine (has49 t A B n c m d b true _ Ib.out).mono ?_
          rintro e w3 ⟨rfl, hb3⟩
          have B3 := bvia B2 hb3
          replace HC := Lib.hid (HC.out.below hb3 HC.out.lt)
          clear a0 a1 a2 q hb3
          have a0 : w3.cell? ⟨w.heap.size, 0, none⟩ = some (.int .i64 t) := HC.out.cell 0
          have a1 : w3.cell? ⟨w.heap.size, 1, none⟩ = some (.slice A n c) := HC.out.cell 1
          have a2 : w3.cell? ⟨w.heap.size, 2, none⟩ = some (.slice B m d) := HC.out.cell 2
          have q := HC.out.lt
          have BK := B3
          have HCK := HC
          have HX1 := Lib.hid (HX.out.up B3)
          clear HX
          go_wp2
          go_loopw [9, 10] (fun v i wr => ∃ (j l : Nat) (A' : Option Addr) (c' : Nat), j ≤ n ∧ l ≤ j ∧ i = .int .i64 (j : Int) ∧ v = .slice A' l c' ∧ Hid ((ofTo xs [a, b] j).length = l) ∧ Hid (wr.ownsRow w3.heap.size 3 1 v l ((ofTo xs [a, b] j).map vInt)) ∧ Hid (Has wr w.heap.size 30 [.int .i64 t, .slice A n c, .slice B m d]) ∧ Below w3.heap.size w3 wr) (fun _ i _ => n - (intOf i).toNat)
          case atStart => exact ⟨0, 0, none, 0, Nat.zero_le _, Nat.le_refl _, rfl, rfl, Lib.hid rfl, Lib.hid (World.ownsRow_nil _ _ _ _), HC, Below.refl _ _⟩
          case round =>
            clear HC a0 a1 a2 q
            obtain ⟨j, l, A', c', hj, hlj, rfl, rfl, HLL, HO, HC, hb⟩ := hrel
            obtain ⟨wo, rfl⟩ : ∃ wo : World, wo = wr := ⟨_, rfl⟩
            have hz := hb.size
            have a1 : wo.cell? ⟨w.heap.size, 1, none⟩ = some (.slice A n c) := HC.out.cell 1
            have q := HC.out.lt
            by_cases hlt : j < n
            · obtain ⟨x, hx⟩ := get_of_lt (l := xs) (k := j) (by rw [HL.out]; exact hlt)
              obtain ⟨ba, o, rfl, hba, c0, c1, c2, c3⟩ := (HX1.out.up hb) _ x hx
              have HXk := Lib.hid hx; clear hx
              have jn : (j : Int) < (n : Int) := by omega
              obtain ⟨w5, hw5⟩ : ∃ w5, w5 = wo.alloc (.cells #[.int .i64 x.a, .int .i64 x.b, .int .i64 x.c, .int .i64 x.d] 70) := ⟨_, rfl⟩
              have hb5 : Below wo.heap.size wo w5 := by rw [hw5]; go_grown
              have HO5 := Lib.hid (own_below HO.out hb5)
              have B5 := hb.trans (hb5.mono hz)
              have hz5 := B5.size
              have HC5 := Lib.hid (HC.out.below hb5 q)
              have K5 : Has w5 wo.heap.size 70 [.int .i64 x.a, .int .i64 x.b, .int .i64 x.c, .int .i64 x.d] := by rw [hw5]; exact Has.new rfl
              go_upto_region 11 with (fail)
              rw [← hw5]
              obtain ⟨gx, hgx⟩ : ∃ gx, gx = wo.heap.size := ⟨_, rfl⟩
              rw [← hgx] at K5 ⊢
              have k2 : w5.cell? ⟨gx, 2, none⟩ = some (.int .i64 x.c) := K5.cell 2
              have k3 : w5.cell? ⟨gx, 3, none⟩ = some (.int .i64 x.d) := K5.cell 3
              have qx := K5.lt
              clear hb5 hw5 K5 hgx HO HC a1 q c0 c1 c2 c3
              by_cases h1 : x.c = a
              · have d1 : (x.c == a) = true := by simpa using h1
                by_cases h2 : x.d = b
                · have d2 : (x.d == b) = true := by simpa using h2
                  have HS := Lib.hid (ofTo_yes (ths := [a, b]) HXk.out (by simp [ofP, h1, h2]))
                  clear h1 h2
                  go_wp2_with (at_builtin; refine wpList_app rfl (.tmp 70) (.tmp 72) _ rfl w3.heap.size 3 (.int .i64 0) 1 8 Try.underlying35 infoInt rfl (by omega) (by omega) _ _ _ rfl (HO5.out.alloc _) w5.heap.size [vInt (j : Int)] rfl rfl (news_new _ _ _) (one_int _ _) (by omega) (by simp; omega) ?_; intro ga cap1 w7 hg1 hown1 hgrow1 hor1)
                  have hb7 := (B5.alloc hz5 _).grown hgrow1 (by simp; omega) (fun kk hk => (HO5.out.lt kk hk).1)
                  have HB7 := Lib.hid hb7
                  have HC7 := Lib.hid ((HCK.out.below hb7 HCK.out.lt))
                  clear hb7
                  go_roundw
                  case rel => exact ⟨j + 1, l + 1, some ⟨ga, 0, none⟩, cap1, by omega, by omega, by go_num, rfl, Lib.hid (by rw [HS.out, List.length_append, HLL.out]; rfl), Lib.hid (by rw [HS.out]; simpa using hown1), HC7, HB7.out⟩
                  case measure => first | (simp [intOf]; done) | (simp [intOf]; omega)
                · have d2 : (x.d == b) = false := by simpa using h2
                  have h3 : ¬ x.c = b := fun h => hab.out (h1.symm.trans h)
                  have d3 : (x.c == b) = false := by simpa using h3
                  have HS := Lib.hid (ofTo_no (ths := [a, b]) HXk.out (by simp [ofP]; intro _; exact ⟨fun h => h3 h.symm, fun h => h2 h.symm⟩))
                  clear h1 h2 h3
                  go_wp2
                  go_roundw
                  case rel => exact ⟨j + 1, l, A', c', by omega, by omega, by go_num, rfl, Lib.hid (by rw [HS.out, HLL.out]), Lib.hid (by rw [HS.out]; exact HO5.out), HC5, B5⟩
                  case measure => first | (simp [intOf]; done) | (simp [intOf]; omega)
              · have d1 : (x.c == a) = false := by simpa using h1
                by_cases h2 : x.c = b
                · have d2 : (x.c == b) = true := by simpa using h2
                  by_cases h3 : x.d = a
                  · have d3 : (x.d == a) = true := by simpa using h3
                    have HS := Lib.hid (ofTo_yes (ths := [a, b]) HXk.out (by simp [ofP, h2, h3]))
                    clear h1 h2 h3
                    go_wp2_with (at_builtin; refine wpList_app rfl (.tmp 70) (.tmp 72) _ rfl w3.heap.size 3 (.int .i64 0) 1 8 Try.underlying35 infoInt rfl (by omega) (by omega) _ _ _ rfl (HO5.out.alloc _) w5.heap.size [vInt (j : Int)] rfl rfl (news_new _ _ _) (one_int _ _) (by omega) (by simp; omega) ?_; intro ga cap1 w7 hg1 hown1 hgrow1 hor1)
                    have hb7 := (B5.alloc hz5 _).grown hgrow1 (by simp; omega) (fun kk hk => (HO5.out.lt kk hk).1)
                    have HB7 := Lib.hid hb7
                    have HC7 := Lib.hid ((HCK.out.below hb7 HCK.out.lt))
                    clear hb7
                    go_roundw
                    case rel => exact ⟨j + 1, l + 1, some ⟨ga, 0, none⟩, cap1, by omega, by omega, by go_num, rfl, Lib.hid (by rw [HS.out, List.length_append, HLL.out]; rfl), Lib.hid (by rw [HS.out]; simpa using hown1), HC7, HB7.out⟩
                    case measure => first | (simp [intOf]; done) | (simp [intOf]; omega)
                  · have d3 : (x.d == a) = false := by simpa using h3
                    have HS := Lib.hid (ofTo_no (ths := [a, b]) HXk.out (no_one h1 h3))
                    clear h1 h2 h3
                    go_wp2
                    go_roundw
                    case rel => exact ⟨j + 1, l, A', c', by omega, by omega, by go_num, rfl, Lib.hid (by rw [HS.out, HLL.out]), Lib.hid (by rw [HS.out]; exact HO5.out), HC5, B5⟩
                    case measure => first | (simp [intOf]; done) | (simp [intOf]; omega)
                · have d2 : (x.c == b) = false := by simpa using h2
                  have HS := Lib.hid (ofTo_no (ths := [a, b]) HXk.out (no_two hab.out h1 h2))
                  clear h1 h2
                  go_wp2
                  go_roundw
                  case rel => exact ⟨j + 1, l, A', c', by omega, by omega, by go_num, rfl, Lib.hid (by rw [HS.out, HLL.out]), Lib.hid (by rw [HS.out]; exact HO5.out), HC5, B5⟩
                  case measure => first | (simp [intOf]; done) | (simp [intOf]; omega)
            · obtain rfl : n = j := by omega
              have hcc := own_caps HO.out
              go_wp2
              go_ret2
              exact ⟨A', l, c', rfl, own_rd1 HO.out, HLL.out, hcc.1, hcc.2, bvia BK hb⟩
  · have e1 : askE t xs ps [a, b] = ckE t xs ps := by rw [ask_two, if_neg hE]
    have e2 : ofR t xs ps [a, b] = [] := by unfold ofR; rw [e1, if_neg hE]
    rw [e1, e2]
    generalize ckE t xs ps = r at *
    have hr : (r != 0) = true := by simpa using hE
    have hr' : (r == 0) = false := by simpa using hE
    clear hE e1 e2
    go_enter Try.func25, Try.ntmps25
    go_wp2_with fail
    refine (C1.out _ (by go_grown)).mono ?_
    rintro e w1 ⟨rfl, hb1⟩
    have B1 := bvia (show Below w.heap.size w _ by go_grown) hb1
    have HC := Lib.hid (K0.below hb1 K0.lt)
    clear K0 hb1 C1
    have a0 : w1.cell? ⟨w.heap.size, 0, none⟩ = some (.int .i64 t) := HC.out.cell 0
    have a1 : w1.cell? ⟨w.heap.size, 1, none⟩ = some (.slice A n c) := HC.out.cell 1
    have a2 : w1.cell? ⟨w.heap.size, 2, none⟩ = some (.slice B m d) := HC.out.cell 2
    have q := HC.out.lt
    go_wp2
    go_ret2
    exact ⟨none, 0, 0, rfl, Rd1.nil _ _ _ _, rfl, Nat.le_refl _, by omega, B1⟩
end Go.Proofs.Ytpljaoagiaijiaa
/-
  Contract of chapter 17: Ends.
-/
namespace Go.Proofs.Ytpljaoagiaijiaa
open Go.RowKit
def endsR (t : Int) (xs ps : List Q4) : List Int := if ckE t xs ps = 0 then (lineTo xs (lineL 48) xs.length).take t.toNat else []
theorem keepC_below {g B : Nat} {V W : World} (h : KeepC g V W) (hB : B ≤ g) (hV : B ≤ V.heap.size) : Below B V W := ⟨h.os, h.tape, h.output, h.size, fun i hi => h.same i (by omega) (by omega)⟩
theorem lineTo_next {xs : List Q4} {L : List Int} {k i : Nat} {x : Q4} {a b : Int} (h : xs[k]? = some x) (hi : x.b = (i : Int)) (ha : (lineTo xs L k)[i]? = some a) (hb : (lineTo xs L k)[i + 1]? = some b) : lineTo xs L (k + 1) = ((lineTo xs L k).set i b).set (i + 1) a := by
  show (match xs[k]? with | some x => swapL (lineTo xs L k) x | none => lineTo xs L k) = _
  rw [h]
  show swapL (lineTo xs L k) x = _
  unfold swapL
  rw [hi, show ((i : Nat) : Int).toNat = i by simp, List.getD_eq_getElem?_getD, List.getD_eq_getElem?_getD, ha, hb]; rfl
theorem rdI_hasC {w : World} {g : Nat} {t : TypeId} {L : List Int} (h : Has w g t (L.map vInt)) : RdI w w.heap.size (some ⟨g, 0, none⟩) L := fun k x hx => by
  refine ⟨g, 0, rfl, h.lt, ?_⟩
  rw [Nat.zero_add, h.cell, List.getElem?_map, hx]; rfl
set_option maxRecDepth 100000 in
set_option maxHeartbeats 4000000 in
theorem ends18 (t : Int) (A B : Option Addr) (n c m d : Nat) (xs ps : List Q4) (w : World) (hn : n ≤ 9223372036854775807) (hm : m ≤ 9223372036854775807) (hx : RdQ w w.heap.size A xs) (hp : RdQ w w.heap.size B ps)
    (hl : xs.length = n) (hl' : ps.length = m) (ht0 : -9223372036854775808 ≤ t) :
    Calls Try.prog 18 #[vCloth t A n c B m d] w (RetIE (endsR t xs ps) (ckE t xs ps) w) := by
  have HX := Lib.hid hx
  have C1 := Lib.hid (fun (W : World) (hb : Below w.heap.size w W) => check42 t A B n c m d xs ps W hn hm (hx.up hb) (hp.up hb) hl hl' ht0)
  clear hx hp
  have K0 : Has (w.alloc (.cells #[.int .i64 t, .slice A n c, .slice B m d] 30)) w.heap.size 30 [.int .i64 t, .slice A n c, .slice B m d] := Has.new rfl
  by_cases hE : ckE t xs ps = 0
  · obtain ⟨ht2, ht48, hn2, _⟩ := ckE_ok hE
    rw [hl] at hn2
    obtain ⟨Tn, rfl⟩ := Int.eq_ofNat_of_zero_le (show 0 ≤ t by omega)
    have hT : Tn ≤ 48 := by omega
    have hT' : (Tn : Int) ≤ 48 := by omega
    have hT0 : (0 : Int) ≤ (Tn : Int) := by omega
    have HCR := Lib.hid (fun x hx => (cross_ok hE x hx).2)
    have hR : endsR (Tn : Int) xs ps = (lineTo xs (lineL 48) n).take Tn := by unfold endsR; rw [if_pos hE, hl]; simp
    rw [hR, hE]
    rw [hE] at C1
    have HL := Lib.hid hl
    clear hR hE hl hl' ht2 ht48
    go_enter Try.func18, Try.ntmps18
    go_wp2_with fail
    refine (C1.out _ (by go_grown)).mono ?_
    rintro e w1 ⟨rfl, hb1⟩
    have B1 := bvia (show Below w.heap.size w _ by go_grown) hb1
    have HC := Lib.hid (K0.below hb1 K0.lt)
    clear K0 hb1 C1
    go_wp2_with fail
    refine (begun57 _).mono ?_
    rintro e w2 ⟨rfl, hb2⟩
    have hlen : ((lineL 48).map vInt).length = 48 := by simp [lineL_len]
    have hinfo : (Try.prog.info? 74).map (·.size) = some 48 := by kernel_rfl
    have B2 := bvia B1 hb2
    replace HC := Lib.hid (HC.out.below hb2 HC.out.lt)
    have HX2 := Lib.hid (HX.out.up B2)
    clear HX hb2 B1
    go_wp2_with (first | (refine wpList_store_has rfl 74 (.tmp 5) (.tmp 13) rfl w2.heap.size ((lineL 48).map vInt) rfl rfl 74 _ (Has.new rfl) (by rw [hlen, hinfo]) (by rw [hlen]; rfl) (by simp [lineL]; intros; rfl) ?_) | fail)
    intro w3 hG3 hBut
    have hb3 : Below w2.heap.size w2 w3 := ((Below.refl _ w2).alloc (Nat.le_refl _) _).trans (hBut.below (Nat.le_refl _) (by simp))
    have HG3 := Lib.hid hG3
    have HC3 := Lib.hid (HC.out.below hb3 HC.out.lt)
    obtain ⟨gl, hgl⟩ : ∃ gl, gl = w2.heap.size := ⟨_, rfl⟩
    have hglw : w.heap.size < gl := by have := HC.out.lt; omega
    rw [← hgl] at HG3 ⊢
    have a0 : w3.cell? ⟨w.heap.size, 0, none⟩ = some (.int .i64 (Tn : Int)) := HC3.out.cell 0
    have a1 : w3.cell? ⟨w.heap.size, 1, none⟩ = some (.slice A n c) := HC3.out.cell 1
    have q := HC3.out.lt
    have HGL := Lib.hid hgl
    clear hG3 hBut hlen hinfo HC hgl
    go_wp2
    go_loopw [17] (fun i wr => ∃ j : Nat, j ≤ n ∧ i = .int .i64 (j : Int) ∧ Hid (Has wr gl 74 ((lineTo xs (lineL 48) j).map vInt)) ∧ Hid (Has wr w.heap.size 30 [.int .i64 (Tn : Int), .slice A n c, .slice B m d]) ∧ Below w2.heap.size w2 wr) (fun i _ => n - (intOf i).toNat)
    case atStart => exact ⟨0, Nat.zero_le _, rfl, HG3, HC3, hb3⟩
    case round =>
      clear HG3 HC3 hb3 a0 a1 q
      obtain ⟨j, hj, rfl, HG, HC, hb⟩ := hrel
      obtain ⟨wo, rfl⟩ : ∃ wo : World, wo = wr := ⟨_, rfl⟩
      have hz := hb.size
      by_cases hlt : j < n
      · obtain ⟨x, hx⟩ := get_of_lt (l := xs) (k := j) (by rw [HL.out]; exact hlt)
        obtain ⟨r0, r1⟩ := HCR.out x (mem_of_get hx)
        obtain ⟨i, hi⟩ := Int.eq_ofNat_of_zero_le r0
        have hi48 : i + 1 < 48 := by omega
        obtain ⟨va, hva⟩ := get_of_lt (l := lineTo xs (lineL 48) j) (k := i) (by rw [lineTo_len, lineL_len]; omega)
        obtain ⟨vb, hvb⟩ := get_of_lt (l := lineTo xs (lineL 48) j) (k := i + 1) (by rw [lineTo_len, lineL_len]; omega)
        have HS := Lib.hid (lineTo_next hx hi hva hvb)
        obtain ⟨ba, o, rfl, hba, c0, c1, c2, c3⟩ := (HX2.out.up hb) _ x hx
        rw [hi] at c1
        have jn : (j : Int) < (n : Int) := by omega
        obtain ⟨w5, hw5⟩ : ∃ w5, w5 = wo.alloc (.cells #[.int .i64 x.a, .int .i64 (i : Int), .int .i64 x.c, .int .i64 x.d] 70) := ⟨_, rfl⟩
        have hb5 : Below wo.heap.size wo w5 := by rw [hw5]; go_grown
        have K5 : Has w5 wo.heap.size 70 [.int .i64 x.a, .int .i64 (i : Int), .int .i64 x.c, .int .i64 x.d] := by rw [hw5]; exact Has.new rfl
        go_upto_region 8 with (fail)
        rw [← hw5]
        obtain ⟨gx, hgx⟩ : ∃ gx, gx = wo.heap.size := ⟨_, rfl⟩
        rw [← hgx] at K5 ⊢
        have k1 : w5.cell? ⟨gx, 1, none⟩ = some (.int .i64 (i : Int)) := K5.cell 1
        have qx := K5.lt
        have HG5 := Lib.hid (HG.out.below hb5 HG.out.lt)
        have HC5 := Lib.hid (HC.out.below hb5 HC.out.lt)
        have B5 := hb.trans (hb5.mono hz)
        have J := Lib.hid (swap65 gl i _ va vb w5 HG5.out hi48 (by rw [List.getElem?_map, hva]; rfl) (by rw [List.getElem?_map, hvb]; rfl))
        clear hx hi hva hvb r0 r1 c0 c1 c2 c3 hb5 hw5 K5 hgx HG HC hb
        go_wp2_with fail
        refine J.out.mono ?_
        rintro e' w6 ⟨⟨v, rfl⟩, hG6, hK, _⟩
        have hb6 := keepC_below hK (show gl ≤ gl from Nat.le_refl _) (Nat.le_of_lt HG5.out.lt)
        have B6 := B5.trans (hb6.mono (Nat.le_of_eq HGL.out.symm))
        have HC6 := Lib.hid (HC5.out.below hb6 hglw)
        have HG6 : Hid (Has w6 gl 74 ((lineTo xs (lineL 48) (j + 1)).map vInt)) := by
          show Has w6 gl 74 ((lineTo xs (lineL 48) (j + 1)).map vInt)
          rw [HS.out, List.map_set, List.map_set]; exact hG6
        clear hG6 hK hb6
        go_wp2
        go_roundw
        case rel => exact ⟨j + 1, by omega, by go_num, HG6, HC6, B6⟩
        case measure => first | (simp [intOf]; done) | (simp [intOf]; omega)
      · obtain rfl : n = j := by omega
        have a0 : wo.cell? ⟨w.heap.size, 0, none⟩ = some (.int .i64 (Tn : Int)) := HC.out.cell 0
        have q := HC.out.lt
        have qg := HG.out.lt
        have J := Lib.hid (clone48 (some ⟨gl, 0, none⟩) Tn 48 ((lineTo xs (lineL 48) n).take Tn) wo (rdI_take (rdI_hasC HG.out)) (by rw [List.length_take, lineTo_len, lineL_len]; omega) (by omega))
        have B7 := bvia B2 hb
        go_wp2_with fail
        refine J.out.mono ?_
        rintro e' w7 ⟨A7, n7, c7, rfl, r7, l7, hb7⟩
        have HR7 := Lib.hid r7; clear r7
        have hcc := own_caps HR7.out
        go_wp2
        go_ret2
        exact ⟨A7, n7, c7, rfl, own_rd1 HR7.out, l7, hcc.1, hcc.2, bvia B7 hb7⟩
  · have e2 : endsR t xs ps = [] := by unfold endsR; rw [if_neg hE]
    rw [e2]
    generalize ckE t xs ps = r at *
    have hr : (r != 0) = true := by simpa using hE
    clear hE e2
    go_enter Try.func18, Try.ntmps18
    go_wp2_with fail
    refine (C1.out _ (by go_grown)).mono ?_
    rintro e w1 ⟨rfl, hb1⟩
    have B1 := bvia (show Below w.heap.size w _ by go_grown) hb1
    clear K0 hb1 C1
    go_wp2
    go_ret2
    exact ⟨none, 0, 0, rfl, Rd1.nil _ _ _ _, rfl, Nat.le_refl _, by omega, B1⟩
end Go.Proofs.Ytpljaoagiaijiaa
