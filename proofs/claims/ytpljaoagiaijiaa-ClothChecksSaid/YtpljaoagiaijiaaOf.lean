/-
  Contracts of chapter 17: the crossings that all of some threads make; Follow and Meet.
-/
import Derived.Test.YtpljaoagiaijiaaThr
namespace Go.Proofs.Ytpljaoagiaijiaa
open Go.RowKit
/-- does a crossing name a thread? -/
def ofP (x : Q4) (n : Int) : Bool := n == x.c || n == x.d
/-- which of the first k crossings name all of some threads -/
def ofTo (xs : List Q4) (ths : List Int) : Nat → List Int
  | 0 => []
  | k + 1 => match xs[k]? with
    | some x => if ths.all (ofP x) = true then ofTo xs ths k ++ [(k : Int)] else ofTo xs ths k
    | none => ofTo xs ths k
def ofR (t : Int) (xs ps : List Q4) (ths : List Int) : List Int := if askE t xs ps ths = 0 then ofTo xs ths xs.length else []
theorem ofTo_yes {xs : List Q4} {ths : List Int} {k : Nat} {x : Q4} (h : xs[k]? = some x) (ha : ths.all (ofP x) = true) : ofTo xs ths (k + 1) = ofTo xs ths k ++ [(k : Int)] := by
  show (match xs[k]? with | some x => if ths.all (ofP x) = true then ofTo xs ths k ++ [(k : Int)] else ofTo xs ths k | none => ofTo xs ths k) = _
  rw [h]; simp only [ha, if_true]
theorem ofTo_no {xs : List Q4} {ths : List Int} {k : Nat} {x : Q4} (h : xs[k]? = some x) (ha : ths.all (ofP x) = false) : ofTo xs ths (k + 1) = ofTo xs ths k := by
  show (match xs[k]? with | some x => if ths.all (ofP x) = true then ofTo xs ths k ++ [(k : Int)] else ofTo xs ths k | none => ofTo xs ths k) = _
  rw [h]; simp only [ha]; rfl
theorem allP_step {p : Int → Bool} {l : List Int} {k : Nat} {x : Int} (hx : l[k]? = some x) : (l.take (k + 1)).all p = ((l.take k).all p && p x) := by
  rw [List.take_add_one, hx]; simp
theorem allP_no {p : Int → Bool} {l : List Int} {k : Nat} {x : Int} (hx : l[k]? = some x) (h : p x = false) : l.all p = false := by
  rw [List.all_eq_false]; exact ⟨x, mem_of_get hx, by rw [h]; simp⟩
set_option maxRecDepth 100000 in
theorem of65 (n : Int) (x : Q4) (g : Nat) (w : World) (r : Bool) (h : (!(ofP x n)) = r) (K : Has w g 70 [.int .i64 x.a, .int .i64 x.b, .int .i64 x.c, .int .i64 x.d]) :
    Calls Try.prog 65 #[.int .i64 n, .pointer (some ⟨g, 0, none⟩)] w fun e w' => e = .returned (.bool r) ∧ w' = w := by
  have c2 : w.cell? ⟨g, 2, none⟩ = some (.int .i64 x.c) := K.cell 2
  have c3 : w.cell? ⟨g, 3, none⟩ = some (.int .i64 x.d) := K.cell 3
  have q := K.lt
  subst h
  clear K
  by_cases h1 : n = x.c
  · have d1 : (n != x.c) = false := by simpa using h1
    have e : ofP x n = true := by unfold ofP; simp [h1]
    rw [e]
    clear h1 e
    go_enter Try.func65, Try.ntmps65
    go_wp2
    go_ret
    exact ⟨rfl, rfl⟩
  · have d1 : (n != x.c) = true := by simpa using h1
    by_cases h2 : n = x.d
    · have d2 : (n != x.d) = false := by simpa using h2
      have e : ofP x n = true := by unfold ofP; simp [h2]
      rw [e]
      clear h1 h2 e
      go_enter Try.func65, Try.ntmps65
      go_wp2
      go_ret
      exact ⟨rfl, rfl⟩
    · have d2 : (n != x.d) = true := by simpa using h2
      have e : ofP x n = false := by unfold ofP; simp [h1, h2]
      rw [e]
      clear h1 h2 e
      go_enter Try.func65, Try.ntmps65
      go_wp2
      go_ret
      exact ⟨rfl, rfl⟩
set_option maxRecDepth 100000 in
theorem index73 (A : Option Addr) (n c : Nat) (D : List Int) (x : Q4) (g : Nat) (w : World) (hn : n ≤ 9223372036854775807) (hx : RdI w w.heap.size A D) (hl : D.length = n) (K : Has w g 70 [.int .i64 x.a, .int .i64 x.b, .int .i64 x.c, .int .i64 x.d]) :
    Calls Try.prog 73 #[.slice A n c, .func (.func 65) #[] #[.pointer (some ⟨g, 0, none⟩)]] w fun e w' => (∃ r : Int, e = .returned (.int .i64 r) ∧ decide (0 ≤ r) = !D.all (ofP x)) ∧ w' = w := by
  have HX := Lib.hid hx; clear hx
  have HL := Lib.hid hl; clear hl
  have HK := Lib.hid K; clear K
  go_enter Try.func73, Try.ntmps73
  go_wp2
  go_loopw [8] (fun i wr => ∃ k : Nat, k ≤ n ∧ i = .int .i64 (k : Int) ∧ Hid ((D.take k).all (ofP x) = true) ∧ wr = w) (fun i _ => n - (intOf i).toNat)
  case atStart => exact ⟨0, Nat.zero_le _, rfl, Lib.hid rfl, rfl⟩
  case round =>
    obtain ⟨k, hk, rfl, HA, rfl⟩ := hrel
    obtain ⟨wo, rfl⟩ : ∃ wo : World, wo = wr := ⟨_, rfl⟩
    by_cases hlt : k < n
    · obtain ⟨v, hx⟩ := get_of_lt (l := D) (k := k) (by rw [HL.out]; exact hlt)
      obtain ⟨ba, o, rfl, hba, c0⟩ := HX.out _ v hx
      have HXk := Lib.hid hx; clear hx
      cases hB : ofP x v with
      | false =>
        have C := Lib.hid (of65 v x g wo true (by rw [hB]; rfl) HK.out)
        have HB : Hid (D.all (ofP x) = false) := allP_no HXk.out hB
        clear hB
        go_wp2_with fail
        refine C.out.mono ?_
        rintro e w' ⟨rfl, rfl⟩
        go_wp2
        go_ret
        exact ⟨⟨k, rfl, by rw [HB.out]; simp⟩, rfl⟩
      | true =>
        have C := Lib.hid (of65 v x g wo false (by rw [hB]; rfl) HK.out)
        have HS : Hid ((D.take (k + 1)).all (ofP x) = true) := by
          show (D.take (k + 1)).all (ofP x) = true
          rw [allP_step HXk.out, HA.out, hB]; rfl
        clear hB
        go_wp2_with fail
        refine C.out.mono ?_
        rintro e w' ⟨rfl, rfl⟩
        go_wp2
        go_roundw
        case rel => exact ⟨k + 1, by omega, by go_num, HS, by first | rfl | trivial⟩
        case measure => first | (simp [intOf]; done) | (simp [intOf]; omega)
    · obtain rfl : n = k := by omega
      have HB : Hid (D.all (ofP x) = true) := by
        have := HA.out
        rw [List.take_of_length_le (by rw [HL.out]; exact Nat.le_refl _)] at this; exact this
      go_wp2
      go_ret
      exact ⟨⟨-1, rfl, by rw [HB.out]; rfl⟩, rfl⟩
set_option maxRecDepth 100000 in
theorem contains64 (A : Option Addr) (n c : Nat) (D : List Int) (x : Q4) (g : Nat) (w : World) (hn : n ≤ 9223372036854775807) (hx : RdI w w.heap.size A D) (hl : D.length = n) (K : Has w g 70 [.int .i64 x.a, .int .i64 x.b, .int .i64 x.c, .int .i64 x.d]) :
    Calls Try.prog 64 #[.slice A n c, .func (.func 65) #[] #[.pointer (some ⟨g, 0, none⟩)]] w fun e w' => e = .returned (.bool (!D.all (ofP x))) ∧ w' = w := by
  have C := Lib.hid (index73 A n c D x g w hn hx hl K); clear hx K
  go_enter Try.func64, Try.ntmps64
  go_wp2_with fail
  refine C.out.mono ?_
  rintro e w' ⟨⟨r, rfl, hr⟩, rfl⟩
  have HR := Lib.hid hr; clear hr
  go_wp2
  go_ret
  exact ⟨ret_bool HR.out, rfl⟩
set_option maxRecDepth 100000 in
set_option maxHeartbeats 2000000 in
theorem of48 (t : Int) (A B T : Option Addr) (n c m d k e : Nat) (xs ps : List Q4) (ths : List Int) (w : World) (hn : n ≤ 9223372036854775807) (hm : m ≤ 9223372036854775807) (hke : k ≤ e) (he : e ≤ 9223372036854775807) (hx : RdQ w w.heap.size A xs) (hp : RdQ w w.heap.size B ps) (hth : RdI w w.heap.size T ths)
    (hl : xs.length = n) (hl' : ps.length = m) (hlt : ths.length = k) (ht0 : -9223372036854775808 ≤ t) :
    Calls Try.prog 48 #[vCloth t A n c B m d, .slice T k e] w (RetIE (ofR t xs ps ths) (askE t xs ps ths) w) := by
  have C1 := Lib.hid (fun (W : World) (hb : Below w.heap.size w W) => asked50 t A B T n c m d k e xs ps ths W hn hm hke he (hx.up hb) (hp.up hb) (hth.up hb) hl hl' hlt ht0)
  have HX := Lib.hid hx; have HT := Lib.hid hth
  have HL := Lib.hid hl; have HLT := Lib.hid hlt
  clear hx hp hth
  have K0 : Has (w.alloc (.cells #[.int .i64 t, .slice A n c, .slice B m d] 30)) w.heap.size 30 [.int .i64 t, .slice A n c, .slice B m d] := Has.new rfl
  by_cases hE : askE t xs ps ths = 0
  · have hck : ckE t xs ps = 0 := by
      refine Classical.byContradiction fun h => ?_
      unfold askE at hE
      rw [if_neg h] at hE
      exact h hE
    have hn2 : n ≤ 20000 := by have := (ckE_ok hck).2.2.1; rw [hl] at this; exact this
    have hR : ofR t xs ps ths = ofTo xs ths n := by unfold ofR; rw [if_pos hE, hl]
    rw [hR, hE]
    rw [hE] at C1
    clear hR hE hck hl hl' hlt
    go_enter Try.func48, Try.ntmps48
    go_wp2_with fail
    refine (C1.out _ (by go_grown)).mono ?_
    rintro e' w1 ⟨rfl, hb1⟩
    have B1 := bvia (show Below w.heap.size w _ by go_grown) hb1
    have HC := Lib.hid (K0.below hb1 K0.lt)
    have a1 : w1.cell? ⟨w.heap.size, 1, none⟩ = some (.slice A n c) := HC.out.cell 1
    have q := HC.out.lt
    have HX1 := Lib.hid (HX.out.up B1)
    have HT1 := Lib.hid (HT.out.up B1)
    clear K0 hb1 C1 HX HT
    go_wp2
    go_loopw [7, 19] (fun v i wr => ∃ (j l : Nat) (A' : Option Addr) (c' : Nat), j ≤ n ∧ l ≤ j ∧ i = .int .i64 (j : Int) ∧ v = .slice A' l c' ∧ Hid ((ofTo xs ths j).length = l) ∧ Hid (wr.ownsRow w1.heap.size 3 1 v l ((ofTo xs ths j).map vInt)) ∧ Below w1.heap.size w1 wr) (fun _ i _ => n - (intOf i).toNat)
    case atStart => exact ⟨0, 0, none, 0, Nat.zero_le _, Nat.le_refl _, rfl, rfl, Lib.hid rfl, Lib.hid (World.ownsRow_nil _ _ _ _), Below.refl _ _⟩
    case round =>
      clear a1 q
      obtain ⟨j, l, A', c', hj, hlj, rfl, rfl, HLL, HO, hb⟩ := hrel
      obtain ⟨wo, rfl⟩ : ∃ wo : World, wo = wr := ⟨_, rfl⟩
      have hz := hb.size
      by_cases hlt : j < n
      · obtain ⟨x, hx⟩ := get_of_lt (l := xs) (k := j) (by rw [HL.out]; exact hlt)
        obtain ⟨ba, o, rfl, hba, c0, c1, c2, c3⟩ := (HX1.out.up hb) _ x hx
        have HXk := Lib.hid hx; clear hx
        obtain ⟨w5, hw5⟩ : ∃ w5, w5 = wo.alloc (.cells #[.int .i64 x.a, .int .i64 x.b, .int .i64 x.c, .int .i64 x.d] 70) := ⟨_, rfl⟩
        have hb5 : Below wo.heap.size wo w5 := by rw [hw5]; go_grown
        have K5 : Has w5 wo.heap.size 70 [.int .i64 x.a, .int .i64 x.b, .int .i64 x.c, .int .i64 x.d] := by rw [hw5]; exact Has.new rfl
        have J := Lib.hid (contains64 T k e ths x wo.heap.size w5 (by omega) ((HT1.out.up hb).up hb5) HLT.out K5)
        have HO5 := Lib.hid (own_below HO.out hb5)
        have B5 := hb.trans (hb5.mono hz)
        have hz5 := B5.size
        have jn : (j : Int) < (n : Int) := by omega
        cases hB : ths.all (ofP x) with
        | true =>
          have HS := Lib.hid (ofTo_yes HXk.out hB)
          rw [hB] at J
          clear hB HO hb5 K5
          go_wp2_with fail
          rw [← hw5]
          refine J.out.mono ?_
          rintro e' w6 ⟨rfl, rfl⟩
          clear hw5 c0 c1 c2 c3
          go_wp2_with (at_builtin; refine wpList_app rfl (.tmp 28) (.tmp 30) _ rfl w1.heap.size 3 (.int .i64 0) 1 8 Try.underlying35 infoInt rfl (by omega) (by omega) _ _ _ rfl (HO5.out.alloc _) w6.heap.size [vInt (j : Int)] rfl rfl (news_new _ _ _) (one_int _ _) (by omega) (by simp; omega) ?_; intro ga cap1 w7 hg1 hown1 hgrow1 hor1)
          go_roundw
          case rel => exact ⟨j + 1, l + 1, some ⟨ga, 0, none⟩, cap1, by omega, by omega, by go_num, rfl, Lib.hid (by rw [HS.out, List.length_append, HLL.out]; rfl), Lib.hid (by rw [HS.out]; simpa using hown1), (B5.alloc hz5 _).grown hgrow1 (by simp; omega) (fun kk hk => (HO5.out.lt kk hk).1)⟩
          case measure => first | (simp [intOf]; done) | (simp [intOf]; omega)
        | false =>
          have HS := Lib.hid (ofTo_no HXk.out hB)
          rw [hB] at J
          clear hB HO hb5 K5
          go_wp2_with fail
          rw [← hw5]
          refine J.out.mono ?_
          rintro e' w6 ⟨rfl, rfl⟩
          clear hw5 c0 c1 c2 c3
          go_wp2
          go_roundw
          case rel => exact ⟨j + 1, l, A', c', by omega, by omega, by go_num, rfl, Lib.hid (by rw [HS.out, HLL.out]), Lib.hid (by rw [HS.out]; exact HO5.out), B5⟩
          case measure => first | (simp [intOf]; done) | (simp [intOf]; omega)
      · obtain rfl : n = j := by omega
        have hcc := own_caps HO.out
        go_wp2
        go_ret2
        exact ⟨A', l, c', rfl, own_rd1 HO.out, HLL.out, hcc.1, hcc.2, bvia B1 hb⟩
  · have hR : ofR t xs ps ths = [] := by unfold ofR; rw [if_neg hE]
    rw [hR]
    generalize askE t xs ps ths = r at *
    have hr : (r != 0) = true := by simpa using hE
    clear hE hR
    go_enter Try.func48, Try.ntmps48
    go_wp2_with fail
    refine (C1.out _ (by go_grown)).mono ?_
    rintro e' w1 ⟨rfl, hb1⟩
    have B1 := bvia (show Below w.heap.size w _ by go_grown) hb1
    clear K0 hb1 C1
    go_wp2
    go_ret2
    exact ⟨none, 0, 0, rfl, Rd1.nil _ _ _ _, rfl, Nat.le_refl _, by omega, B1⟩
end Go.Proofs.Ytpljaoagiaijiaa
