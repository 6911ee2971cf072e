/-
  Walk of the law ColoursTurned.
-/
import Derived.Test.YtnijfkidgndbdaaSwq
namespace Go.Proofs.Ytnijfkidgndbdaa
open Go.RowKit
set_option maxRecDepth 100000 in
set_option maxHeartbeats 8000000 in
theorem turnedOf (t : Int) (A B D : Option Addr) (n c m d k e : Nat) (xs ps : List Q4) (ds : List Int) (w : World) (hn : n ≤ 9223372036854775807) (hm : m ≤ 9223372036854775807) (hk : k ≤ 9223372036854775807) (hx : RdQ w w.heap.size A xs) (hp : RdQ w w.heap.size B ps) (hd : RdI w w.heap.size D ds)
    (hl : xs.length = n) (hl' : ps.length = m) (hlk : ds.length = k) (ht0 : -9223372036854775808 ≤ t) (hnc : n ≤ c) :
    Calls Try.prog 6 #[vCloth t A n c B m d, .slice D k e] w fun e w' => e = .returned (.bool true) ∧ Below w.heap.size w w' := by
  have HX := Lib.hid hx; have HP := Lib.hid hp; have HD := Lib.hid hd
  have C1 := Lib.hid (fun (W : World) (hb : Below w.heap.size w W) => seen14 t A B D n c m d k e xs ps ds W hn hm hk (HX.out.up hb) (HP.out.up hb) (HD.out.up hb) hl hl' hlk ht0)
  have C3 := Lib.hid (fun (W : World) (hb : Below w.heap.size w W) => back19 t A B D n c m d k e xs ps ds W hn hm hk (HX.out.up hb) (HP.out.up hb) (HD.out.up hb) hl hl' hlk ht0)
  have C5 := Lib.hid (fun (W : World) (hb : Below w.heap.size w W) => plain25 t A B D n c m d k e xs ps ds W hn hm hk (HX.out.up hb) (HP.out.up hb) (HD.out.up hb) hl hl' hlk ht0)
  have C7 := Lib.hid (fun (W : World) (hb : Below w.heap.size w W) => line21 t A B D n c m d k e (n : Int) xs ps ds W hn hm hk (HX.out.up hb) (HP.out.up hb) (HD.out.up hb) hl hl' hlk ht0 hnc)
  clear hx hp hd
  have K0 : Has (w.alloc (.cells #[.int .i64 t, .slice A n c, .slice B m d] 25)) w.heap.size 25 [.int .i64 t, .slice A n c, .slice B m d] := Has.new rfl
  have B0 : Below w.heap.size w (w.alloc (.cells #[.int .i64 t, .slice A n c, .slice B m d] 25)) := by go_grown
  by_cases hfar : farB t n m = true
  · have CF := Lib.hid (far12 t A B n c m d (w.alloc (.cells #[.int .i64 t, .slice A n c, .slice B m d] 25)))
    rw [hfar] at CF
    go_enter Try.func6, Try.ntmps6
    go_wp2_with fail
    refine CF.out.mono ?_
    rintro e w1 ⟨rfl, hb1⟩
    have B1 := bvia B0 hb1
    go_wp2_with fail
    refine (shown13 _).mono ?_
    rintro e w2 ⟨rfl, hb2⟩
    go_wp2
    go_ret
    exact ⟨rfl, bvia B1 hb2⟩
  have CF := Lib.hid (far12 t A B n c m d (w.alloc (.cells #[.int .i64 t, .slice A n c, .slice B m d] 25)))
  rw [show farB t n m = false by simpa using hfar] at CF
  by_cases hlim : (100 : Int) < (k : Int)
  · have dl : decide ((100 : Int) < (k : Int)) = true := decide_eq_true hlim
    clear hlim
    go_enter Try.func6, Try.ntmps6
    go_wp2_with fail
    refine CF.out.mono ?_
    rintro e w1 ⟨rfl, hb1⟩
    have B1 := bvia B0 hb1
    go_wp2_with fail
    refine (shown13 _).mono ?_
    rintro e w2 ⟨rfl, hb2⟩
    go_wp2
    go_ret
    exact ⟨rfl, bvia B1 hb2⟩
  have dl : decide ((100 : Int) < (k : Int)) = false := decide_eq_false hlim
  clear hlim hfar
  by_cases hE : chkE t xs ps ds = 0
  · have hn2 : n ≤ 20000 := by have := (ckE_ok (chkE_ok hE).1).2.2.1; rw [hl] at this; exact this
    have hLE : lineE t xs ps ds (n : Int) = 0 := by unfold lineE; rw [if_pos hE, if_neg (by rw [hl]; omega)]
    have CT : ∀ (A' : Option Addr) (c' : Nat) (W : World), n ≤ c' → RdQ W W.heap.size A' (xs.map swapQ) → Below w.heap.size w W →
        Calls Try.prog 19 #[vCloth t A' n c' B m d, .slice D k e] W (RetIE (seenR t xs ps ds) 0 W) ∧
        Calls Try.prog 14 #[vCloth t A' n c' B m d, .slice D k e] W (RetIE (backR t xs ps ds) 0 W) ∧
        Calls Try.prog 25 #[vCloth t A' n c' B m d, .slice D k e] W (RetIE (plainR t xs ps ds) 0 W) ∧
        Calls Try.prog 21 #[vCloth t A' n c' B m d, .slice D k e, .int .i64 (n : Int)] W (RetIE (lineR t xs ps ds (n : Int)) 0 W) := fun A' c' W hc' hQ hb => by
      have hl2 : (xs.map swapQ).length = n := by rw [List.length_map, hl]
      have f1 := back19 t A' B D n c' m d k e (xs.map swapQ) ps ds W hn hm hk hQ (HP.out.up hb) (HD.out.up hb) hl2 hl' hlk ht0
      have f2 := seen14 t A' B D n c' m d k e (xs.map swapQ) ps ds W hn hm hk hQ (HP.out.up hb) (HD.out.up hb) hl2 hl' hlk ht0
      have f3 := plain25 t A' B D n c' m d k e (xs.map swapQ) ps ds W hn hm hk hQ (HP.out.up hb) (HD.out.up hb) hl2 hl' hlk ht0
      have f4 := line21 t A' B D n c' m d k e (n : Int) (xs.map swapQ) ps ds W hn hm hk hQ (HP.out.up hb) (HD.out.up hb) hl2 hl' hlk ht0 hc'
      rw [backR_swap, chkE_swap, hE] at f1
      rw [seenR_swap, chkE_swap, hE] at f2
      rw [plainR_swap, chkE_swap, hE] at f3
      rw [lineR_swap, lineE_swap, hLE] at f4
      exact ⟨f1, f2, f3, f4⟩
    have HCT := Lib.hid CT; clear CT
    rw [hE] at C1 C3 C5
    rw [hLE] at C7
    clear hE hLE
    have HL := Lib.hid hl
    go_enter Try.func6, Try.ntmps6
    go_wp2_with fail
    refine CF.out.mono ?_
    rintro e w1 ⟨rfl, hb1⟩
    have B1 := bvia B0 hb1
    have HB := Lib.hid (K0.below hb1 K0.lt)
    clear K0 hb1 CF B0
    have a0 : w1.cell? ⟨w.heap.size, 0, none⟩ = some (.int .i64 t) := HB.out.cell 0
    have a1 : w1.cell? ⟨w.heap.size, 1, none⟩ = some (.slice A n c) := HB.out.cell 1
    have a2 : w1.cell? ⟨w.heap.size, 2, none⟩ = some (.slice B m d) := HB.out.cell 2
    have q := HB.out.lt
    go_wp2_with fail
    refine (C1.out _ B1).mono ?_
    rintro e w2 ⟨A2, n2, c2, rfl, r2, l2, k2, k2', hb2⟩
    have B2 := bvia B1 hb2
    replace HB := Lib.hid (HB.out.below hb2 HB.out.lt)
    clear hb2 a0 a1 a2 q
    have HS := Lib.hid r2; clear r2
    have HSl := Lib.hid l2; clear l2
    have HSk : n2 ≤ 9223372036854775807 := Nat.le_trans k2 k2'
    clear k2 k2'
    have a0 : w2.cell? ⟨w.heap.size, 0, none⟩ = some (.int .i64 t) := HB.out.cell 0
    have a1 : w2.cell? ⟨w.heap.size, 1, none⟩ = some (.slice A n c) := HB.out.cell 1
    have a2 : w2.cell? ⟨w.heap.size, 2, none⟩ = some (.slice B m d) := HB.out.cell 2
    have q := HB.out.lt
    go_wp2
    obtain ⟨w3, hw3⟩ : ∃ w3, w3 = w2.alloc (.cells #[.int .i64 t, .slice none 0 0, .slice B m d] 25) := ⟨_, rfl⟩
    rw [← hw3]
    obtain ⟨g, hg⟩ : ∃ g, g = w2.heap.size := ⟨_, rfl⟩
    rw [← hg]
    have hT3 : Has w3 g 25 [.int .i64 t, .slice none 0 0, .slice B m d] := by rw [hw3, hg]; exact Has.new rfl
    have hb3 : Below w2.heap.size w2 w3 := by rw [hw3]; go_grown
    have hs3 : g + 1 ≤ w3.heap.size := by rw [hw3]; simp; omega
    have HB3 := Lib.hid (HB.out.below hb3 q)
    have hgw : w.heap.size < g := by omega
    have HT3 := Lib.hid hT3; have HW3 := Lib.hid hb3
    have hgw2 : w2.heap.size ≤ g := by omega
    clear hw3 hT3 hb3 HB a0 a1 a2 q hg
    go_loopw [8] (fun i wr => ∃ (j : Nat) (A' : Option Addr) (c' : Nat), j ≤ n ∧ i = .int .i64 (j : Int) ∧ Hid (Has wr g 25 [.int .i64 t, .slice A' j c', .slice B m d]) ∧ Hid (wr.ownsRow (g + 1) 38 4 (.slice A' j c') j (qsCells ((xs.take j).map swapQ))) ∧ Hid (Has wr w.heap.size 25 [.int .i64 t, .slice A n c, .slice B m d]) ∧ Below w2.heap.size w2 wr ∧ g + 1 ≤ wr.heap.size) (fun i _ => n - (intOf i).toNat)
    case atStart => exact ⟨0, none, 0, Nat.zero_le _, rfl, HT3, Lib.hid (World.ownsRow_nil _ _ _ _), HB3, HW3.out, hs3⟩
    case round =>
      clear HT3 HB3 HW3 hs3
      obtain ⟨j, A', c', hj, rfl, HT, HO, HB, hb, hs⟩ := hrel
      obtain ⟨wo, rfl⟩ : ∃ wo : World, wo = wr := ⟨_, rfl⟩
      have hbw : Below w.heap.size w wo := bvia' B2 (Nat.le_refl _) hb
      have a0 : wo.cell? ⟨w.heap.size, 0, none⟩ = some (.int .i64 t) := HB.out.cell 0
      have a1 : wo.cell? ⟨w.heap.size, 1, none⟩ = some (.slice A n c) := HB.out.cell 1
      have a2 : wo.cell? ⟨w.heap.size, 2, none⟩ = some (.slice B m d) := HB.out.cell 2
      have q := HB.out.lt
      have t0 : wo.cell? ⟨g, 0, none⟩ = some (.int .i64 t) := HT.out.cell 0
      have t1 : wo.cell? ⟨g, 1, none⟩ = some (.slice A' j c') := HT.out.cell 1
      have t2 : wo.cell? ⟨g, 2, none⟩ = some (.slice B m d) := HT.out.cell 2
      have qg := HT.out.lt
      by_cases hlt : j < n
      · obtain ⟨x, hx⟩ := get_of_lt (l := xs) (k := j) (by rw [HL.out]; exact hlt)
        obtain ⟨ba, o, rfl, hba, c0, c1, c2, c3⟩ := (HX.out.below (B' := w.heap.size) hbw (Nat.le_refl _)) _ x hx
        have HS1 : Hid (qsCells ((xs.take (j + 1)).map swapQ) = qsCells ((xs.take j).map swapQ) ++ qCells (swapQ x)) := by
          show qsCells ((xs.take (j + 1)).map swapQ) = _
          rw [map_take_succ _ hx, qsCells_app]
        clear hx
        have hnews := news_q (wo.alloc (.cells #[.int .i64 x.a, .int .i64 x.b, .int .i64 x.d, .int .i64 x.c] 38)) (swapQ x) 38
        rw [World.size_alloc] at hnews
        have HNW := Lib.hid hnews; clear hnews
        go_wp2_with (at_builtin; refine wpList_app rfl (.tmp 70) (.tmp 72) _ rfl (g + 1) 38 (.agg #[.int .i64 0, .int .i64 0, .int .i64 0, .int .i64 0]) 4 32 Try.underlying22 infoQ rfl (by omega) (by omega) _ _ _ rfl ((HO.out.alloc _).alloc _) (wo.heap.size + 1) (qCells (swapQ x)) rfl rfl HNW.out (one_q (swapQ x)) (by omega) (by simp; omega) ?_)
        intro ga cap1 w4 hg1 hown1 hgrow1 hor1
        have hO2 := (HO.out.alloc (.cells #[.int .i64 x.a, .int .i64 x.b, .int .i64 x.d, .int .i64 x.c] 38)).alloc (.cells #[.int .i64 x.a, .int .i64 x.b, .int .i64 x.d, .int .i64 x.c] 38)
        have hT2 := (HT.out.alloc (.cells #[.int .i64 x.a, .int .i64 x.b, .int .i64 x.d, .int .i64 x.c] 38)).alloc (.cells #[.int .i64 x.a, .int .i64 x.b, .int .i64 x.d, .int .i64 x.c] 38)
        have hB2 := (HB.out.alloc (.cells #[.int .i64 x.a, .int .i64 x.b, .int .i64 x.d, .int .i64 x.c] 38)).alloc (.cells #[.int .i64 x.a, .int .i64 x.b, .int .i64 x.d, .int .i64 x.c] 38)
        have hT4 := hT2.same (hgrow1.block g hT2.lt (fun e => hT2.ne_own hO2 (by decide) e.symm))
        have HB4 := Lib.hid (hB2.same (hgrow1.block _ hB2.lt (fun e => hB2.ne_own hO2 (by decide) e.symm)))
        have hbs := hb.size
        have B4 : Below w2.heap.size w2 w4 := ((hb.alloc hbs _).alloc (by simp; omega) _).grown hgrow1 (by simp; omega) (fun k hk => by have := (hO2.lt k hk).1; omega)
        have hs4 : g + 1 ≤ w4.heap.size := by have h := hgrow1.size; simp at h; omega
        have u1 := hT4.cell 1
        have u2 := hT4.free 1
        have qg4 := hT4.lt
        have HT4 := Lib.hid hT4
        clear hO2 hT2 hB2 hT4 hgrow1 HT HB HO a0 a1 a2 q t0 t1 t2 qg hb hbs HNW
        go_wp2
        go_roundw
        case rel => exact ⟨j + 1, some ⟨ga, 0, none⟩, cap1, by omega, by go_num, Lib.hid (HT4.out.set 1 _), Lib.hid (ownsRow_setCell_below (by rw [HS1.out, List.map_take]; exact hown1) (by simp) _), Lib.hid (HB4.out.far (by omega) _ _), B4.setCell (by simpa using hgw2) _, by simpa [World.setCell] using hs4⟩
        case measure => first | (simp [intOf]; done) | (simp [intOf]; omega)
      · obtain rfl : n = j := by omega
        obtain ⟨w3, rfl⟩ : ∃ w3 : World, w3 = wo := ⟨_, rfl⟩
        have hQ : RdQ w3 w3.heap.size A' (xs.map swapQ) := by
          have h := own_rdQ HO.out
          rwa [List.take_of_length_le (by rw [HL.out]; exact Nat.le_refl _)] at h
        have hcc := (own_caps HO.out).1
        have HQ := Lib.hid hQ; clear hQ
        replace HS := Lib.hid (HS.out.up hb)
        have B3 := hbw
        clear hb HO a0 a1 a2 q t0 t1 t2 qg
        have a0 : w3.cell? ⟨w.heap.size, 0, none⟩ = some (.int .i64 t) := HB.out.cell 0
        have a1 : w3.cell? ⟨w.heap.size, 1, none⟩ = some (.slice A n c) := HB.out.cell 1
        have a2 : w3.cell? ⟨w.heap.size, 2, none⟩ = some (.slice B m d) := HB.out.cell 2
        have q := HB.out.lt
        have t0 : w3.cell? ⟨g, 0, none⟩ = some (.int .i64 t) := HT.out.cell 0
        have t1 : w3.cell? ⟨g, 1, none⟩ = some (.slice A' n c') := HT.out.cell 1
        have t2 : w3.cell? ⟨g, 2, none⟩ = some (.slice B m d) := HT.out.cell 2
        have qg := HT.out.lt
        go_wp2_with fail
        refine ((HCT.out A' c' _ hcc HQ.out B3).1).mono ?_
        rintro e w4 ⟨A4, n4, c4, rfl, r4, l4, k4, k4', hb4⟩
        have B4 := bvia B3 hb4
        replace HB := Lib.hid (HB.out.below hb4 HB.out.lt)
        replace HT := Lib.hid (HT.out.below hb4 HT.out.lt)
        replace HQ := Lib.hid (HQ.out.up hb4)
        replace HS := Lib.hid (HS.out.up hb4)
        clear hb4 a0 a1 a2 q t0 t1 t2 qg
        have HU := Lib.hid r4; clear r4
        have HUl := Lib.hid l4; clear l4
        have HUk : n4 ≤ 9223372036854775807 := Nat.le_trans k4 k4'
        clear k4 k4'
        have a0 : w4.cell? ⟨w.heap.size, 0, none⟩ = some (.int .i64 t) := HB.out.cell 0
        have a1 : w4.cell? ⟨w.heap.size, 1, none⟩ = some (.slice A n c) := HB.out.cell 1
        have a2 : w4.cell? ⟨w.heap.size, 2, none⟩ = some (.slice B m d) := HB.out.cell 2
        have q := HB.out.lt
        have t0 : w4.cell? ⟨g, 0, none⟩ = some (.int .i64 t) := HT.out.cell 0
        have t1 : w4.cell? ⟨g, 1, none⟩ = some (.slice A' n c') := HT.out.cell 1
        have t2 : w4.cell? ⟨g, 2, none⟩ = some (.slice B m d) := HT.out.cell 2
        have qg := HT.out.lt
        go_wp2_with fail
        refine (C3.out _ B4).mono ?_
        rintro e w5 ⟨A5, n5, c5, rfl, r5, l5, k5, k5', hb5⟩
        have B5 := bvia B4 hb5
        replace HB := Lib.hid (HB.out.below hb5 HB.out.lt)
        replace HT := Lib.hid (HT.out.below hb5 HT.out.lt)
        replace HQ := Lib.hid (HQ.out.up hb5)
        replace HS := Lib.hid (HS.out.up hb5)
        replace HU := Lib.hid (HU.out.up hb5)
        clear hb5 a0 a1 a2 q t0 t1 t2 qg
        have HV := Lib.hid r5; clear r5
        have HVl := Lib.hid l5; clear l5
        have HVk : n5 ≤ 9223372036854775807 := Nat.le_trans k5 k5'
        clear k5 k5'
        have a0 : w5.cell? ⟨w.heap.size, 0, none⟩ = some (.int .i64 t) := HB.out.cell 0
        have a1 : w5.cell? ⟨w.heap.size, 1, none⟩ = some (.slice A n c) := HB.out.cell 1
        have a2 : w5.cell? ⟨w.heap.size, 2, none⟩ = some (.slice B m d) := HB.out.cell 2
        have q := HB.out.lt
        have t0 : w5.cell? ⟨g, 0, none⟩ = some (.int .i64 t) := HT.out.cell 0
        have t1 : w5.cell? ⟨g, 1, none⟩ = some (.slice A' n c') := HT.out.cell 1
        have t2 : w5.cell? ⟨g, 2, none⟩ = some (.slice B m d) := HT.out.cell 2
        have qg := HT.out.lt
        go_wp2_with fail
        refine ((HCT.out A' c' _ hcc HQ.out B5).2.1).mono ?_
        rintro e w6 ⟨A6, n6, c6, rfl, r6, l6, k6, k6', hb6⟩
        have B6 := bvia B5 hb6
        replace HB := Lib.hid (HB.out.below hb6 HB.out.lt)
        replace HT := Lib.hid (HT.out.below hb6 HT.out.lt)
        replace HQ := Lib.hid (HQ.out.up hb6)
        replace HS := Lib.hid (HS.out.up hb6)
        replace HU := Lib.hid (HU.out.up hb6)
        replace HV := Lib.hid (HV.out.up hb6)
        clear hb6 a0 a1 a2 q t0 t1 t2 qg
        have HY := Lib.hid r6; clear r6
        have HYl := Lib.hid l6; clear l6
        have HYk : n6 ≤ 9223372036854775807 := Nat.le_trans k6 k6'
        clear k6 k6'
        have a0 : w6.cell? ⟨w.heap.size, 0, none⟩ = some (.int .i64 t) := HB.out.cell 0
        have a1 : w6.cell? ⟨w.heap.size, 1, none⟩ = some (.slice A n c) := HB.out.cell 1
        have a2 : w6.cell? ⟨w.heap.size, 2, none⟩ = some (.slice B m d) := HB.out.cell 2
        have q := HB.out.lt
        have t0 : w6.cell? ⟨g, 0, none⟩ = some (.int .i64 t) := HT.out.cell 0
        have t1 : w6.cell? ⟨g, 1, none⟩ = some (.slice A' n c') := HT.out.cell 1
        have t2 : w6.cell? ⟨g, 2, none⟩ = some (.slice B m d) := HT.out.cell 2
        have qg := HT.out.lt
        go_wp2_with fail
        refine (C5.out _ B6).mono ?_
        rintro e w7 ⟨A7, n7, c7, rfl, r7, l7, k7, k7', hb7⟩
        have B7 := bvia B6 hb7
        replace HB := Lib.hid (HB.out.below hb7 HB.out.lt)
        replace HT := Lib.hid (HT.out.below hb7 HT.out.lt)
        replace HQ := Lib.hid (HQ.out.up hb7)
        replace HS := Lib.hid (HS.out.up hb7)
        replace HU := Lib.hid (HU.out.up hb7)
        replace HV := Lib.hid (HV.out.up hb7)
        replace HY := Lib.hid (HY.out.up hb7)
        clear hb7 a0 a1 a2 q t0 t1 t2 qg
        have HZ := Lib.hid r7; clear r7
        have HZl := Lib.hid l7; clear l7
        have HZk : n7 ≤ 9223372036854775807 := Nat.le_trans k7 k7'
        clear k7 k7'
        have a0 : w7.cell? ⟨w.heap.size, 0, none⟩ = some (.int .i64 t) := HB.out.cell 0
        have a1 : w7.cell? ⟨w.heap.size, 1, none⟩ = some (.slice A n c) := HB.out.cell 1
        have a2 : w7.cell? ⟨w.heap.size, 2, none⟩ = some (.slice B m d) := HB.out.cell 2
        have q := HB.out.lt
        have t0 : w7.cell? ⟨g, 0, none⟩ = some (.int .i64 t) := HT.out.cell 0
        have t1 : w7.cell? ⟨g, 1, none⟩ = some (.slice A' n c') := HT.out.cell 1
        have t2 : w7.cell? ⟨g, 2, none⟩ = some (.slice B m d) := HT.out.cell 2
        have qg := HT.out.lt
        go_wp2_with fail
        refine ((HCT.out A' c' _ hcc HQ.out B7).2.2.1).mono ?_
        rintro e w8 ⟨A8, n8, c8, rfl, r8, l8, k8, k8', hb8⟩
        have B8 := bvia B7 hb8
        replace HB := Lib.hid (HB.out.below hb8 HB.out.lt)
        replace HT := Lib.hid (HT.out.below hb8 HT.out.lt)
        replace HQ := Lib.hid (HQ.out.up hb8)
        replace HS := Lib.hid (HS.out.up hb8)
        replace HU := Lib.hid (HU.out.up hb8)
        replace HV := Lib.hid (HV.out.up hb8)
        replace HY := Lib.hid (HY.out.up hb8)
        replace HZ := Lib.hid (HZ.out.up hb8)
        clear hb8 a0 a1 a2 q t0 t1 t2 qg
        have HM := Lib.hid r8; clear r8
        have HMl := Lib.hid l8; clear l8
        have HMk : n8 ≤ 9223372036854775807 := Nat.le_trans k8 k8'
        clear k8 k8'
        have a0 : w8.cell? ⟨w.heap.size, 0, none⟩ = some (.int .i64 t) := HB.out.cell 0
        have a1 : w8.cell? ⟨w.heap.size, 1, none⟩ = some (.slice A n c) := HB.out.cell 1
        have a2 : w8.cell? ⟨w.heap.size, 2, none⟩ = some (.slice B m d) := HB.out.cell 2
        have q := HB.out.lt
        have t0 : w8.cell? ⟨g, 0, none⟩ = some (.int .i64 t) := HT.out.cell 0
        have t1 : w8.cell? ⟨g, 1, none⟩ = some (.slice A' n c') := HT.out.cell 1
        have t2 : w8.cell? ⟨g, 2, none⟩ = some (.slice B m d) := HT.out.cell 2
        have qg := HT.out.lt
        go_wp2_with fail
        refine (C7.out _ B8).mono ?_
        rintro e w9 ⟨A9, n9, c9, rfl, r9, l9, k9, k9', hb9⟩
        have B9 := bvia B8 hb9
        replace HB := Lib.hid (HB.out.below hb9 HB.out.lt)
        replace HT := Lib.hid (HT.out.below hb9 HT.out.lt)
        replace HQ := Lib.hid (HQ.out.up hb9)
        replace HS := Lib.hid (HS.out.up hb9)
        replace HU := Lib.hid (HU.out.up hb9)
        replace HV := Lib.hid (HV.out.up hb9)
        replace HY := Lib.hid (HY.out.up hb9)
        replace HZ := Lib.hid (HZ.out.up hb9)
        replace HM := Lib.hid (HM.out.up hb9)
        clear hb9 a0 a1 a2 q t0 t1 t2 qg
        have HN := Lib.hid r9; clear r9
        have HNl := Lib.hid l9; clear l9
        have HNk : n9 ≤ 9223372036854775807 := Nat.le_trans k9 k9'
        clear k9 k9'
        have a0 : w9.cell? ⟨w.heap.size, 0, none⟩ = some (.int .i64 t) := HB.out.cell 0
        have a1 : w9.cell? ⟨w.heap.size, 1, none⟩ = some (.slice A n c) := HB.out.cell 1
        have a2 : w9.cell? ⟨w.heap.size, 2, none⟩ = some (.slice B m d) := HB.out.cell 2
        have q := HB.out.lt
        have t0 : w9.cell? ⟨g, 0, none⟩ = some (.int .i64 t) := HT.out.cell 0
        have t1 : w9.cell? ⟨g, 1, none⟩ = some (.slice A' n c') := HT.out.cell 1
        have t2 : w9.cell? ⟨g, 2, none⟩ = some (.slice B m d) := HT.out.cell 2
        have qg := HT.out.lt
        go_wp2_with fail
        refine ((HCT.out A' c' _ hcc HQ.out B9).2.2.2).mono ?_
        rintro e w10 ⟨A10, n10, c10, rfl, r10, l10, k10, k10', hb10⟩
        have B10 := bvia B9 hb10
        replace HB := Lib.hid (HB.out.below hb10 HB.out.lt)
        replace HT := Lib.hid (HT.out.below hb10 HT.out.lt)
        replace HQ := Lib.hid (HQ.out.up hb10)
        replace HS := Lib.hid (HS.out.up hb10)
        replace HU := Lib.hid (HU.out.up hb10)
        replace HV := Lib.hid (HV.out.up hb10)
        replace HY := Lib.hid (HY.out.up hb10)
        replace HZ := Lib.hid (HZ.out.up hb10)
        replace HM := Lib.hid (HM.out.up hb10)
        replace HN := Lib.hid (HN.out.up hb10)
        clear hb10 a0 a1 a2 q t0 t1 t2 qg
        have HR := Lib.hid r10; clear r10
        have HRl := Lib.hid l10; clear l10
        have HRk : n10 ≤ 9223372036854775807 := Nat.le_trans k10 k10'
        clear k10 k10'
        have J1 := Lib.hid (ints18 A2 A4 n2 n4 c2 c4 _ _ w10 HSk HUk HS.out HU.out HSl.out HUl.out)
        simp only [beq_self_eq_true] at J1
        have a0 : w10.cell? ⟨w.heap.size, 0, none⟩ = some (.int .i64 t) := HB.out.cell 0
        have a1 : w10.cell? ⟨w.heap.size, 1, none⟩ = some (.slice A n c) := HB.out.cell 1
        have a2 : w10.cell? ⟨w.heap.size, 2, none⟩ = some (.slice B m d) := HB.out.cell 2
        have q := HB.out.lt
        have t0 : w10.cell? ⟨g, 0, none⟩ = some (.int .i64 t) := HT.out.cell 0
        have t1 : w10.cell? ⟨g, 1, none⟩ = some (.slice A' n c') := HT.out.cell 1
        have t2 : w10.cell? ⟨g, 2, none⟩ = some (.slice B m d) := HT.out.cell 2
        have qg := HT.out.lt
        go_wp2_with fail
        refine (J1.out).mono ?_
        rintro e w11 ⟨rfl, hb11⟩
        have B11 := bvia B10 hb11
        replace HB := Lib.hid (HB.out.below hb11 HB.out.lt)
        replace HT := Lib.hid (HT.out.below hb11 HT.out.lt)
        replace HQ := Lib.hid (HQ.out.up hb11)
        replace HS := Lib.hid (HS.out.up hb11)
        replace HU := Lib.hid (HU.out.up hb11)
        replace HV := Lib.hid (HV.out.up hb11)
        replace HY := Lib.hid (HY.out.up hb11)
        replace HZ := Lib.hid (HZ.out.up hb11)
        replace HM := Lib.hid (HM.out.up hb11)
        replace HN := Lib.hid (HN.out.up hb11)
        replace HR := Lib.hid (HR.out.up hb11)
        clear hb11 a0 a1 a2 q t0 t1 t2 qg
        clear J1
        have J1 := Lib.hid (ints18 A5 A6 n5 n6 c5 c6 _ _ w11 HVk HYk HV.out HY.out HVl.out HYl.out)
        simp only [beq_self_eq_true] at J1
        have a0 : w11.cell? ⟨w.heap.size, 0, none⟩ = some (.int .i64 t) := HB.out.cell 0
        have a1 : w11.cell? ⟨w.heap.size, 1, none⟩ = some (.slice A n c) := HB.out.cell 1
        have a2 : w11.cell? ⟨w.heap.size, 2, none⟩ = some (.slice B m d) := HB.out.cell 2
        have q := HB.out.lt
        have t0 : w11.cell? ⟨g, 0, none⟩ = some (.int .i64 t) := HT.out.cell 0
        have t1 : w11.cell? ⟨g, 1, none⟩ = some (.slice A' n c') := HT.out.cell 1
        have t2 : w11.cell? ⟨g, 2, none⟩ = some (.slice B m d) := HT.out.cell 2
        have qg := HT.out.lt
        go_wp2_with fail
        refine (J1.out).mono ?_
        rintro e w12 ⟨rfl, hb12⟩
        have B12 := bvia B11 hb12
        replace HB := Lib.hid (HB.out.below hb12 HB.out.lt)
        replace HT := Lib.hid (HT.out.below hb12 HT.out.lt)
        replace HQ := Lib.hid (HQ.out.up hb12)
        replace HS := Lib.hid (HS.out.up hb12)
        replace HU := Lib.hid (HU.out.up hb12)
        replace HV := Lib.hid (HV.out.up hb12)
        replace HY := Lib.hid (HY.out.up hb12)
        replace HZ := Lib.hid (HZ.out.up hb12)
        replace HM := Lib.hid (HM.out.up hb12)
        replace HN := Lib.hid (HN.out.up hb12)
        replace HR := Lib.hid (HR.out.up hb12)
        clear hb12 a0 a1 a2 q t0 t1 t2 qg
        clear J1
        have J1 := Lib.hid (ints18 A7 A8 n7 n8 c7 c8 _ _ w12 HZk HMk HZ.out HM.out HZl.out HMl.out)
        simp only [beq_self_eq_true] at J1
        have a0 : w12.cell? ⟨w.heap.size, 0, none⟩ = some (.int .i64 t) := HB.out.cell 0
        have a1 : w12.cell? ⟨w.heap.size, 1, none⟩ = some (.slice A n c) := HB.out.cell 1
        have a2 : w12.cell? ⟨w.heap.size, 2, none⟩ = some (.slice B m d) := HB.out.cell 2
        have q := HB.out.lt
        have t0 : w12.cell? ⟨g, 0, none⟩ = some (.int .i64 t) := HT.out.cell 0
        have t1 : w12.cell? ⟨g, 1, none⟩ = some (.slice A' n c') := HT.out.cell 1
        have t2 : w12.cell? ⟨g, 2, none⟩ = some (.slice B m d) := HT.out.cell 2
        have qg := HT.out.lt
        go_wp2_with fail
        refine (J1.out).mono ?_
        rintro e w13 ⟨rfl, hb13⟩
        have B13 := bvia B12 hb13
        replace HB := Lib.hid (HB.out.below hb13 HB.out.lt)
        replace HT := Lib.hid (HT.out.below hb13 HT.out.lt)
        replace HQ := Lib.hid (HQ.out.up hb13)
        replace HS := Lib.hid (HS.out.up hb13)
        replace HU := Lib.hid (HU.out.up hb13)
        replace HV := Lib.hid (HV.out.up hb13)
        replace HY := Lib.hid (HY.out.up hb13)
        replace HZ := Lib.hid (HZ.out.up hb13)
        replace HM := Lib.hid (HM.out.up hb13)
        replace HN := Lib.hid (HN.out.up hb13)
        replace HR := Lib.hid (HR.out.up hb13)
        clear hb13 a0 a1 a2 q t0 t1 t2 qg
        clear J1
        have J1 := Lib.hid (ints18 A9 A10 n9 n10 c9 c10 _ _ w13 HNk HRk HN.out HR.out HNl.out HRl.out)
        simp only [beq_self_eq_true] at J1
        have a0 : w13.cell? ⟨w.heap.size, 0, none⟩ = some (.int .i64 t) := HB.out.cell 0
        have a1 : w13.cell? ⟨w.heap.size, 1, none⟩ = some (.slice A n c) := HB.out.cell 1
        have a2 : w13.cell? ⟨w.heap.size, 2, none⟩ = some (.slice B m d) := HB.out.cell 2
        have q := HB.out.lt
        have t0 : w13.cell? ⟨g, 0, none⟩ = some (.int .i64 t) := HT.out.cell 0
        have t1 : w13.cell? ⟨g, 1, none⟩ = some (.slice A' n c') := HT.out.cell 1
        have t2 : w13.cell? ⟨g, 2, none⟩ = some (.slice B m d) := HT.out.cell 2
        have qg := HT.out.lt
        go_wp2_with fail
        refine (J1.out).mono ?_
        rintro e w14 ⟨rfl, hb14⟩
        have B14 := bvia B13 hb14
        replace HB := Lib.hid (HB.out.below hb14 HB.out.lt)
        replace HT := Lib.hid (HT.out.below hb14 HT.out.lt)
        replace HQ := Lib.hid (HQ.out.up hb14)
        replace HS := Lib.hid (HS.out.up hb14)
        replace HU := Lib.hid (HU.out.up hb14)
        replace HV := Lib.hid (HV.out.up hb14)
        replace HY := Lib.hid (HY.out.up hb14)
        replace HZ := Lib.hid (HZ.out.up hb14)
        replace HM := Lib.hid (HM.out.up hb14)
        replace HN := Lib.hid (HN.out.up hb14)
        replace HR := Lib.hid (HR.out.up hb14)
        clear hb14 a0 a1 a2 q t0 t1 t2 qg
        clear J1
        have a0 : w14.cell? ⟨w.heap.size, 0, none⟩ = some (.int .i64 t) := HB.out.cell 0
        have a1 : w14.cell? ⟨w.heap.size, 1, none⟩ = some (.slice A n c) := HB.out.cell 1
        have a2 : w14.cell? ⟨w.heap.size, 2, none⟩ = some (.slice B m d) := HB.out.cell 2
        have q := HB.out.lt
        have t0 : w14.cell? ⟨g, 0, none⟩ = some (.int .i64 t) := HT.out.cell 0
        have t1 : w14.cell? ⟨g, 1, none⟩ = some (.slice A' n c') := HT.out.cell 1
        have t2 : w14.cell? ⟨g, 2, none⟩ = some (.slice B m d) := HT.out.cell 2
        have qg := HT.out.lt
        go_wp2_with fail
        refine (shown13 _).mono ?_
        rintro e w15 ⟨rfl, hb15⟩
        have B15 := bvia B14 hb15
        replace HB := Lib.hid (HB.out.below hb15 HB.out.lt)
        replace HT := Lib.hid (HT.out.below hb15 HT.out.lt)
        replace HQ := Lib.hid (HQ.out.up hb15)
        replace HS := Lib.hid (HS.out.up hb15)
        replace HU := Lib.hid (HU.out.up hb15)
        replace HV := Lib.hid (HV.out.up hb15)
        replace HY := Lib.hid (HY.out.up hb15)
        replace HZ := Lib.hid (HZ.out.up hb15)
        replace HM := Lib.hid (HM.out.up hb15)
        replace HN := Lib.hid (HN.out.up hb15)
        replace HR := Lib.hid (HR.out.up hb15)
        clear hb15 a0 a1 a2 q t0 t1 t2 qg
        go_wp2
        go_ret
        exact ⟨rfl, B15⟩
  · have e1 : seenR t xs ps ds = [] := by unfold seenR; rw [if_neg hE]
    rw [e1] at C1
    generalize chkE t xs ps ds = r at *
    have hr : (r != 0) = true := by simpa using hE
    clear hE e1 C3 C5 C7
    go_enter Try.func6, Try.ntmps6
    go_wp2_with fail
    refine CF.out.mono ?_
    rintro e w1 ⟨rfl, hb1⟩
    have B1 := bvia B0 hb1
    have HB := Lib.hid (K0.below hb1 K0.lt)
    clear K0 hb1 CF B0
    have a0 : w1.cell? ⟨w.heap.size, 0, none⟩ = some (.int .i64 t) := HB.out.cell 0
    have a1 : w1.cell? ⟨w.heap.size, 1, none⟩ = some (.slice A n c) := HB.out.cell 1
    have a2 : w1.cell? ⟨w.heap.size, 2, none⟩ = some (.slice B m d) := HB.out.cell 2
    have q := HB.out.lt
    go_wp2_with fail
    refine (C1.out _ B1).mono ?_
    rintro e w2 ⟨A2, n2, c2, rfl, r2, l2, k2, k2', hb2⟩
    obtain rfl : 0 = n2 := l2
    have B2 := bvia B1 hb2
    clear r2 HB a0 a1 a2 q
    go_wp2_with fail
    refine (shown13 _).mono ?_
    rintro e w3 ⟨rfl, hb3⟩
    go_wp2
    go_ret
    exact ⟨rfl, bvia B2 hb3⟩
end Go.Proofs.Ytnijfkidgndbdaa
