/-
  Walk of the law ClothMakes.
-/
import Derived.Test.YtpljaoagiaijiaaRmk
import Derived.Test.YtpljaoagiaijiaaSn
namespace Go.Proofs.Ytpljaoagiaijiaa
open Go.RowKit
set_option maxRecDepth 100000 in
set_option maxHeartbeats 1000000 in
theorem make12e (p : Int) (A : Option Addr) (n c : Nat) (ws : List Wk) (w : World) (hn : n ≤ 9223372036854775807) (hw : RdW w w.heap.size A ws) (hl : ws.length = n) (hs : ∀ x ∈ ws, x.word.size ≤ 9223372036854775807) (hE : schk p ws ≠ 0) :
    Calls Try.prog 12 #[.agg #[.int .i64 p, .slice A n c]] w (RetCE 0 [] [] (schk p ws) w) := by
  have C1 := Lib.hid (fun (W : World) (hb : Below w.heap.size w W) => check04 p A n c ws W hn (hw.up hb) hl hs)
  clear hw hl hs
  generalize schk p ws = r at *
  have hr : (r != 0) = true := by simpa using hE
  clear hE
  go_enter Try.func12, Try.ntmps12
  go_wp2_with fail
  refine (C1.out _ (by go_grown)).mono ?_
  rintro e w1 ⟨rfl, hb1⟩
  have K2 : Has w1 (w.heap.size + 1) 30 [.int .i64 0, .slice none 0 0, .slice none 0 0] := (Has.new2 rfl).below hb1 (by simp)
  have B1 : Below w.heap.size w w1 := bvia (show Below w.heap.size w _ by go_grown) hb1
  have z0 : w1.cell? ⟨w.heap.size + 1, 0, none⟩ = some (.int .i64 0) := K2.cell 0
  have z1 : w1.cell? ⟨w.heap.size + 1, 1, none⟩ = some (.slice none 0 0) := K2.cell 1
  have z2 : w1.cell? ⟨w.heap.size + 1, 2, none⟩ = some (.slice none 0 0) := K2.cell 2
  have f0 := K2.free 0
  have f1 := K2.free 1
  have f2 := K2.free 2
  have qa := K2.lt
  clear hb1
  go_wp2
  refine post_cell_tmp (((K2.set 0 _).set 1 _).set 2 _) rfl rfl rfl rfl Try.underlying30 (by kernel_rfl) ⟨none, 0, 0, none, 0, 0, rfl, RdQ.nil _ _ _, RdQ.nil _ _ _, rfl, rfl, Nat.le_refl _, by omega, Nat.le_refl _, by omega, ?_⟩
  exact ((B1.setCell (by simp) _).setCell (by simp) _).setCell (by simp) _
/-- both Makes return the same -/
theorem makes_both (p : Int) (A : Option Addr) (n c : Nat) (ws : List Wk) (hn : n ≤ 9223372036854775807) (hl : ws.length = n) (hs : ∀ x ∈ ws, x.word.size ≤ 9223372036854775807) :
    ∃ t xs ps er, ∀ W : World, RdW W W.heap.size A ws → Calls Try.prog 11 #[.agg #[.int .i64 p, .slice A n c]] W (RetCE t xs ps er W) ∧ Calls Try.prog 12 #[.agg #[.int .i64 p, .slice A n c]] W (RetCE t xs ps er W) := by
  by_cases hE : schk p ws = 0
  · exact ⟨_, _, _, _, fun W hw => ⟨make11 p A n c ws W hn hw hl hE, make12 p A n c ws W hn hw hl hE⟩⟩
  · exact ⟨_, _, _, _, fun W hw => ⟨make11e p A n c ws W hn hw hl hs hE, make12e p A n c ws W hn hw hl hs hE⟩⟩
set_option maxRecDepth 100000 in
set_option maxHeartbeats 1000000 in
theorem far9 (p : Int) (A : Option Addr) (n c : Nat) (ws : List Wk) (w : World) (hn : n ≤ 9223372036854775807) (hw : RdW w w.heap.size A ws) (hl : ws.length = n) (hs : ∀ x ∈ ws, x.word.size ≤ 9223372036854775807) :
    Calls Try.prog 9 #[.agg #[.int .i64 p, .slice A n c]] w fun e w' => GreatR e ∧ Below w.heap.size w w' := by
  have HW := Lib.hid hw; clear hw
  have HL := Lib.hid hl; clear hl
  have HS := Lib.hid hs; clear hs
  have K0 : Has (w.alloc (.cells #[.int .i64 p, .slice A n c] 24)) w.heap.size 24 [.int .i64 p, .slice A n c] := Has.new rfl
  by_cases h1 : (100 < n ∧ n ≤ 400) ∨ 2000 < n
  · have hx : ((100 : Int) < (n : Int) ∧ (n : Int) ≤ 400) ∨ ((2000 : Int) < (n : Int)) := by omega
    clear h1
    rcases hx with ⟨h1, h2⟩ | h1
    · have d1 : decide ((100 : Int) < (n : Int)) = true := decide_eq_true h1
      have d2 : decide ((n : Int) ≤ 400) = true := decide_eq_true h2
      go_enter Try.func9, Try.ntmps9
      go_wp2
      all_goals go_ret
      all_goals exact ⟨GreatR.of rfl, by go_grown⟩
    · have d1 : decide ((100 : Int) < (n : Int)) = true := decide_eq_true (by omega)
      have d2 : decide ((n : Int) ≤ 400) = false := decide_eq_false (by omega)
      have d3 : decide ((2000 : Int) < (n : Int)) = true := decide_eq_true h1
      go_enter Try.func9, Try.ntmps9
      go_wp2
      all_goals go_ret
      all_goals exact ⟨GreatR.of rfl, by go_grown⟩
  · have hx : ¬ ((100 : Int) < (n : Int)) ∨ ((100 : Int) < (n : Int) ∧ ¬ (n : Int) ≤ 400) := by omega
    have d3 : decide ((2000 : Int) < (n : Int)) = false := decide_eq_false (by omega)
    have d0 : (decide ((100 : Int) < (n : Int)) && decide ((n : Int) ≤ 400)) = false := by
      rcases hx with h | ⟨_, h⟩
      · rw [decide_eq_false h]; rfl
      · rw [decide_eq_false h, Bool.and_false]
    rcases hx with hx | ⟨hx, hy⟩
    case inl =>
      have d1 : decide ((100 : Int) < (n : Int)) = false := decide_eq_false hx
      go_enter Try.func9, Try.ntmps9
      go_wp2
      go_loopw [3] (fun i wr => ∃ k : Nat, k ≤ n ∧ i = .int .i64 (k : Int) ∧ wr = w.alloc (.cells #[.int .i64 p, .slice A n c] 24)) (fun i _ => n - (intOf i).toNat)
      case atStart => exact ⟨0, Nat.zero_le _, rfl, rfl⟩
      case round =>
        obtain ⟨k, hk, rfl, hwr⟩ := hrel
        have HB : Has wr w.heap.size 24 [.int .i64 p, .slice A n c] := by rw [hwr]; exact K0
        have B1 : Below w.heap.size w wr := by rw [hwr]; go_grown
        have HWR := Lib.hid hwr
        have a1 : wr.cell? ⟨w.heap.size, 1, none⟩ = some (.slice A n c) := HB.cell 1
        have q := HB.lt
        clear hwr K0
        by_cases hlt : k < n
        · obtain ⟨x, hx⟩ := get_of_lt (l := ws) (k := k) (by rw [HL.out]; exact hlt)
          obtain ⟨ba, o, rfl, hba, c0, c1, c2⟩ := (HW.out.up B1) _ x hx
          have hsx := HS.out x (mem_of_get hx)
          have jn : (k : Int) < (n : Int) := by omega
          clear hx
          by_cases hs1 : 1000 < x.word.size
          · have e1 : decide ((1000 : Int) < (x.word.size : Int)) = true := decide_eq_true (by omega)
            go_wp2
            go_ret
            exact ⟨GreatR.of rfl, B1⟩
          · have e1 : decide ((1000 : Int) < (x.word.size : Int)) = false := decide_eq_false (by omega)
            go_wp2
            go_roundw
            case rel => exact ⟨k + 1, by omega, by go_num, HWR.out⟩
            case measure => first | (simp [intOf]; done) | (simp [intOf]; omega)
        · obtain rfl : n = k := by omega
          go_wp2
          go_ret
          exact ⟨GreatR.of rfl, B1⟩
    case inr =>
      have d1 : decide ((100 : Int) < (n : Int)) = true := decide_eq_true hx
      have d2 : decide ((n : Int) ≤ 400) = false := decide_eq_false hy
      go_enter Try.func9, Try.ntmps9
      go_wp2
      go_loopw [3] (fun i wr => ∃ k : Nat, k ≤ n ∧ i = .int .i64 (k : Int) ∧ wr = w.alloc (.cells #[.int .i64 p, .slice A n c] 24)) (fun i _ => n - (intOf i).toNat)
      case atStart => exact ⟨0, Nat.zero_le _, rfl, rfl⟩
      case round =>
        obtain ⟨k, hk, rfl, hwr⟩ := hrel
        have HB : Has wr w.heap.size 24 [.int .i64 p, .slice A n c] := by rw [hwr]; exact K0
        have B1 : Below w.heap.size w wr := by rw [hwr]; go_grown
        have HWR := Lib.hid hwr
        have a1 : wr.cell? ⟨w.heap.size, 1, none⟩ = some (.slice A n c) := HB.cell 1
        have q := HB.lt
        clear hwr K0
        by_cases hlt : k < n
        · obtain ⟨x, hx⟩ := get_of_lt (l := ws) (k := k) (by rw [HL.out]; exact hlt)
          obtain ⟨ba, o, rfl, hba, c0, c1, c2⟩ := (HW.out.up B1) _ x hx
          have hsx := HS.out x (mem_of_get hx)
          have jn : (k : Int) < (n : Int) := by omega
          clear hx
          by_cases hs1 : 1000 < x.word.size
          · have e1 : decide ((1000 : Int) < (x.word.size : Int)) = true := decide_eq_true (by omega)
            go_wp2
            go_ret
            exact ⟨GreatR.of rfl, B1⟩
          · have e1 : decide ((1000 : Int) < (x.word.size : Int)) = false := decide_eq_false (by omega)
            go_wp2
            go_roundw
            case rel => exact ⟨k + 1, by omega, by go_num, HWR.out⟩
            case measure => first | (simp [intOf]; done) | (simp [intOf]; omega)
        · obtain rfl : n = k := by omega
          go_wp2
          go_ret
          exact ⟨GreatR.of rfl, B1⟩
set_option maxRecDepth 100000 in
set_option maxHeartbeats 2000000 in
theorem makesOf (p : Int) (A : Option Addr) (n c : Nat) (ws : List Wk) (w : World) (hn : n ≤ 9223372036854775807) (hw : RdW w w.heap.size A ws) (hl : ws.length = n) (hs : ∀ x ∈ ws, x.word.size ≤ 9223372036854775807) :
    Calls Try.prog 3 #[.agg #[.int .i64 p, .slice A n c]] w fun e w' => e = .returned (.bool true) ∧ Below w.heap.size w w' := by
  obtain ⟨t, xs, ps, er, hMB⟩ := makes_both p A n c ws hn hl hs
  have HMB := Lib.hid hMB
  have HW := Lib.hid hw
  have CF := Lib.hid (fun (W : World) (hb : Below w.heap.size w W) => far9 p A n c ws W hn (hw.up hb) hl hs)
  have K0 : Has (w.alloc (.cells #[.int .i64 p, .slice A n c] 24)) w.heap.size 24 [.int .i64 p, .slice A n c] := Has.new rfl
  clear hMB hw hl hs
  go_enter Try.func3, Try.ntmps3
  go_wp2_with fail
  refine (CF.out _ (by go_grown)).mono ?_
  rintro e w1 ⟨⟨b, rfl⟩, hb1⟩
  have B1 : Below w.heap.size w w1 := bvia (show Below w.heap.size w _ by go_grown) hb1
  have HB := Lib.hid (K0.below hb1 K0.lt)
  clear K0 hb1 CF
  cases b with
  | true =>
    go_wp2_with fail
    refine (shown10 _).mono ?_
    rintro e w2 ⟨rfl, hb2⟩
    go_wp2
    go_ret
    exact ⟨rfl, bvia B1 hb2⟩
  | false =>
    have a0 : w1.cell? ⟨w.heap.size, 0, none⟩ = some (.int .i64 p) := HB.out.cell 0
    have a1 : w1.cell? ⟨w.heap.size, 1, none⟩ = some (.slice A n c) := HB.out.cell 1
    have q := HB.out.lt
    have C1 := Lib.hid ((HMB.out w1 (HW.out.up B1)).1)
    go_wp2_with fail
    refine C1.out.mono ?_
    rintro e w2 ⟨A2, n2, c2, D2, m2, d2, rfl, x2, p2, ln2, lm2, hc2, hc2', hd2, hd2', hb2⟩
    have HX2 := Lib.hid x2
    have HP2 := Lib.hid p2
    have HL2 := Lib.hid ln2
    have HM2 := Lib.hid lm2
    have B2 := bvia B1 hb2
    have HB2 := Lib.hid (HB.out.below hb2 HB.out.lt)
    clear x2 p2 ln2 lm2 hb2 C1 a0 a1 q HB B1
    obtain ⟨w3, hw3⟩ : ∃ w3, w3 = w2.alloc (.cells #[.int .i64 t, .slice A2 n2 c2, .slice D2 m2 d2] 30) := ⟨_, rfl⟩
    have hb3 : Below w2.heap.size w2 w3 := by rw [hw3]; go_grown
    have K3 : Has w3 w2.heap.size 30 [.int .i64 t, .slice A2 n2 c2, .slice D2 m2 d2] := by rw [hw3]; exact Has.new rfl
    go_upto_region 4 with (fail)
    rw [← hw3]
    obtain ⟨g3, hg3⟩ : ∃ g, g = w2.heap.size := ⟨_, rfl⟩
    rw [← hg3] at K3 ⊢
    have HX3 := Lib.hid (HX2.out.up hb3)
    have HP3 := Lib.hid (HP2.out.up hb3)
    have HB3 := Lib.hid (HB2.out.below hb3 HB2.out.lt)
    have B3 := bvia B2 hb3
    have HK3 := Lib.hid K3
    clear hw3 hb3 hg3 K3 HX2 HP2 HB2 B2
    have a0 : w3.cell? ⟨w.heap.size, 0, none⟩ = some (.int .i64 p) := HB3.out.cell 0
    have a1 : w3.cell? ⟨w.heap.size, 1, none⟩ = some (.slice A n c) := HB3.out.cell 1
    have q := HB3.out.lt
    have C2 := Lib.hid ((HMB.out w3 (HW.out.up B3)).2)
    go_wp2_with fail
    refine C2.out.mono ?_
    rintro e w4 ⟨A4, n4, c4, D4, m4, d4, rfl, x4, p4, ln4, lm4, _, _, _, _, hb4⟩
    obtain rfl : n4 = n2 := by rw [← ln4, HL2.out]
    obtain rfl : m4 = m2 := by rw [← lm4, HM2.out]
    have HX4 := Lib.hid (HX3.out.up hb4)
    have HP4 := Lib.hid (HP3.out.up hb4)
    have HY4 := Lib.hid x4
    have HQ4 := Lib.hid p4
    have HK4 := Lib.hid (HK3.out.below hb4 HK3.out.lt)
    have B4 := bvia B3 hb4
    clear x4 p4 ln4 lm4 hb4 C2 a0 a1 q HB3 HK3 HX3 HP3 B3
    obtain ⟨w5, hw5⟩ : ∃ w5, w5 = w4.alloc (.cells #[.int .i64 t, .slice A4 n4 c4, .slice D4 m4 d4] 30) := ⟨_, rfl⟩
    have hb5 : Below w4.heap.size w4 w5 := by rw [hw5]; go_grown
    have K5 : Has w5 w4.heap.size 30 [.int .i64 t, .slice A4 n4 c4, .slice D4 m4 d4] := by rw [hw5]; exact Has.new rfl
    go_upto_region 5 with (fail)
    rw [← hw5]
    obtain ⟨g5, hg5⟩ : ∃ g, g = w4.heap.size := ⟨_, rfl⟩
    rw [← hg5] at K5 ⊢
    have HX5 := Lib.hid (HX4.out.up hb5)
    have HP5 := Lib.hid (HP4.out.up hb5)
    have HY5 := Lib.hid (HY4.out.up hb5)
    have HQ5 := Lib.hid (HQ4.out.up hb5)
    have HK5 := HK4.out.below hb5 HK4.out.lt
    have B5 := bvia B4 hb5
    clear hw5 hb5 hg5 HX4 HP4 HY4 HQ4 HK4 B4
    have k0 : w5.cell? ⟨g3, 0, none⟩ = some (.int .i64 t) := HK5.cell 0
    have k1 : w5.cell? ⟨g3, 1, none⟩ = some (.slice A2 n4 c2) := HK5.cell 1
    have k2 : w5.cell? ⟨g3, 2, none⟩ = some (.slice D2 m4 d2) := HK5.cell 2
    have m0 : w5.cell? ⟨g5, 0, none⟩ = some (.int .i64 t) := K5.cell 0
    have m1 : w5.cell? ⟨g5, 1, none⟩ = some (.slice A4 n4 c4) := K5.cell 1
    have m2 : w5.cell? ⟨g5, 2, none⟩ = some (.slice D4 m4 d4) := K5.cell 2
    have q3 := HK5.lt
    have q5 := K5.lt
    have e0 : (er == er) = true := by simp
    go_wp2_with fail
    refine (same13 t A2 D2 A4 D4 n4 c2 m4 d2 c4 d4 xs ps w5 (by omega) (by omega) HX5.out HY5.out HP5.out HQ5.out HL2.out HM2.out).mono ?_
    rintro e w6 ⟨rfl, hb6⟩
    have B6 := bvia B5 hb6
    clear k0 k1 k2 m0 m1 m2 q3 q5 hb6 HK5 K5
    go_wp2_with fail
    refine (shown10 _).mono ?_
    rintro e w7 ⟨rfl, hb7⟩
    go_wp2
    go_ret
    exact ⟨rfl, bvia B6 hb7⟩
end Go.Proofs.Ytpljaoagiaijiaa
