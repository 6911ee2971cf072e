/-
  Walk of the law ClothAny.
-/
import Derived.Test.YtpljaoagiaijiaaLmk
import Derived.Test.YtpljaoagiaijiaaHis
namespace Go.Proofs.Ytpljaoagiaijiaa
open Go.RowKit
theorem mkI17 (n : Nat) (hn : n ≤ 1000) (W : World) : (Instr.makeSlice 35 (.int .i64 (n : Int)) (.int .i64 (n : Int))).run Try.prog W = .ok (.slice (some ⟨W.heap.size, 0, none⟩) n n) (W.alloc (.cells (madeCells #[.int .i64 0] n) 3)) := by
  obtain ⟨i, hi, hz, hs, hb⟩ := info_parts infoInt
  have h := run_make (P := Try.prog) W 35 3 i (.int .i64 0) Try.underlying35 hi hz .i64 .i64 (n : Int) (n : Int) (by omega) (Int.le_refl _) (by rw [hb]; omega) (by omega)
  rw [hs] at h
  simpa [Value.cells] using h
/-- the numbers so far, and zeroes -/
def fillL (n j : Nat) : List Value := (lineL j).map vInt ++ List.replicate (n - j) (vInt 0)
theorem fillL_zero (n : Nat) : fillL n 0 = List.replicate n (.int .i64 0) := by simp [fillL, lineL]
theorem fillL_all (n : Nat) : fillL n n = (lineL n).map vInt := by simp [fillL]
theorem fillL_at {n j : Nat} (h : j < n) : (fillL n j)[j]? = some (vInt 0) := by
  unfold fillL
  have e : n - j = (n - (j + 1)) + 1 := by omega
  rw [e, List.replicate_succ, List.getElem?_append_right (by simp [lineL_len])]
  simp [lineL_len]
theorem fillL_set {n j : Nat} (h : j < n) : (fillL n j).set j (.int .i64 (j : Int)) = fillL n (j + 1) := by
  unfold fillL
  have e : n - j = (n - (j + 1)) + 1 := by omega
  rw [e, List.replicate_succ, List.set_append_right _ _ (by simp [lineL_len]), lineL_succ]
  simp [lineL_len]
/-- a slice of what a thread does -/
def RdM (w : World) (B : Nat) (A : Option Addr) (ys : List (Int × Int × Bool)) : Prop :=
  ∀ (k : Nat) (y : Int × Int × Bool), ys[k]? = some y → ∃ b o, A = some ⟨b, o, none⟩ ∧ b < B ∧ w.cell? ⟨b, o + k*3, none⟩ = some (.int .i64 y.1) ∧ w.cell? ⟨b, o + k*3+1, none⟩ = some (.int .i64 y.2.1) ∧ w.cell? ⟨b, o + k*3+2, none⟩ = some (.bool y.2.2)
theorem own_rdM {w : World} {base : Nat} {e : TypeId} {n c : Nat} {A : Option Addr} {ys : List (Int × Int × Bool)} (h : w.ownsRow base e 3 (.slice A n c) n (mtsC ys)) : RdM w w.heap.size A ys := fun k x hx => by
  obtain ⟨e1, e2, e3⟩ := mtsC_get hx
  obtain ⟨g, h1, _, h2, h3⟩ := own_at h e1
  obtain ⟨g2, h4, _, _, h5⟩ := own_at h e2
  obtain ⟨g3, h6, _, _, h7⟩ := own_at h e3
  obtain rfl : g = g2 := by rw [h1] at h4; injection h4 with h4; injection h4
  obtain rfl : g = g3 := by rw [h1] at h6; injection h6 with h6; injection h6
  exact ⟨g, 0, h1, h2, by rw [Nat.zero_add]; exact h3, by rw [Nat.zero_add]; exact h5, by rw [Nat.zero_add]; exact h7⟩
theorem eqMt (a b : Int) (c : Bool) (w : World) : (Op.equalIn 10000 43 (.agg #[.int .i64 a, .int .i64 b, .bool c]) (.agg #[.int .i64 a, .int .i64 b, .bool c])).run Try.prog w = .ok true w := by
  have u3 := Try.underlying3
  have a3 := Try.isAgg3
  have z3 := Try.sizeOf3
  have u4 := Try.underlying4
  have a4 := Try.isAgg4
  have z4 := Try.sizeOf4
  have hS : Try.prog.underlying 43 = some (.struct (Try.prog.fieldsOf 43)) := by kernel_rfl
  have hp : Try.prog.stoodInHeld 43 = false := by kernel_rfl
  rw [show (10000 : Nat) = 9999 + 1 from rfl, run_equalIn_agg w 9999 43 _ _ hS hp]
  simp only [Program.fieldsOf, Try.underlying43]
  go_simp
set_option maxRecDepth 100000 in
set_option maxHeartbeats 16000000 in
theorem anyOf (p : Int) (A D : Option Addr) (n c k e : Nat) (ws : List Wk) (ord : List Int) (w : World) (hn : n ≤ 9223372036854775807) (hk : k ≤ 9223372036854775807) (hw : RdW w w.heap.size A ws) (hl : ws.length = n) (hs : ∀ x ∈ ws, x.word.size ≤ 9223372036854775807) (hd : RdI w w.heap.size D ord) (hlk : ord.length = k) :
    Calls Try.prog 4 #[.agg #[.int .i64 p, .slice A n c], .slice D k e] w fun e w' => e = .returned (.bool true) ∧ Below w.heap.size w w' := by
  have CF := Lib.hid (fun (W : World) (hb : Below w.heap.size w W) => far9 p A n c ws W hn (hw.up hb) hl hs)
  have CK := Lib.hid (fun (W : World) (hb : Below w.heap.size w W) => check04 p A n c ws W hn (hw.up hb) hl hs)
  have K0 : Has (w.alloc (.cells #[.int .i64 p, .slice A n c] 24)) w.heap.size 24 [.int .i64 p, .slice A n c] := Has.new rfl
  by_cases h2000 : 2000 < k
  · have dk : decide ((2000 : Int) < (k : Int)) = true := decide_eq_true (by omega)
    clear hw hl hs hd hlk CK
    go_enter Try.func4, Try.ntmps4
    go_wp2_with fail
    refine (CF.out _ (by go_grown)).mono ?_
    rintro e1 w1 ⟨⟨b, rfl⟩, hb1⟩
    have B1 : Below w.heap.size w w1 := bvia (show Below w.heap.size w _ by go_grown) hb1
    have HB := Lib.hid (K0.below hb1 K0.lt)
    clear K0 hb1 CF
    cases b with
    | true =>
      go_wp2_with fail
      refine (shown10 _).mono ?_
      rintro e2 w2 ⟨rfl, hb2⟩
      go_wp2
      go_ret
      exact ⟨rfl, bvia B1 hb2⟩
    | false =>
      go_wp2_with fail
      refine (shown10 _).mono ?_
      rintro e2 w2 ⟨rfl, hb2⟩
      go_wp2
      go_ret
      exact ⟨rfl, bvia B1 hb2⟩
  have dk : decide ((2000 : Int) < (k : Int)) = false := decide_eq_false (by omega)
  by_cases hE : schk p ws = 0
  case neg =>
    generalize schk p ws = r at *
    have hr : (r != 0) = true := by simpa using hE
    clear hw hl hs hd hlk hE
    go_enter Try.func4, Try.ntmps4
    go_wp2_with fail
    refine (CF.out _ (by go_grown)).mono ?_
    rintro e1 w1 ⟨⟨b, rfl⟩, hb1⟩
    have B1 : Below w.heap.size w w1 := bvia (show Below w.heap.size w _ by go_grown) hb1
    have HB := Lib.hid (K0.below hb1 K0.lt)
    clear K0 hb1 CF
    cases b with
    | true =>
      go_wp2_with fail
      refine (shown10 _).mono ?_
      rintro e2 w2 ⟨rfl, hb2⟩
      go_wp2
      go_ret
      exact ⟨rfl, bvia B1 hb2⟩
    | false =>
      have a0 : w1.cell? ⟨w.heap.size, 0, none⟩ = some (.int .i64 p) := HB.out.cell 0
      have a1 : w1.cell? ⟨w.heap.size, 1, none⟩ = some (.slice A n c) := HB.out.cell 1
      have q := HB.out.lt
      go_wp2_with fail
      refine (CK.out _ B1).mono ?_
      rintro e2 w2 ⟨rfl, hb2⟩
      have B2 := bvia B1 hb2
      replace HB := Lib.hid (HB.out.below hb2 HB.out.lt)
      clear a0 a1 q hb2
      go_wp2_with fail
      refine (shown10 _).mono ?_
      rintro e3 w3 ⟨rfl, hb3⟩
      go_wp2
      go_ret
      exact ⟨rfl, bvia B2 hb3⟩
  have hok := schk_zero hE
  rw [hE] at CK
  have CO := Lib.hid (fun (W : World) (hb : Below w.heap.size w W) => order15 p A D n c k e ws ord W (hw.up hb) hl hok (hd.up hb) hlk (by omega))
  by_cases hO : ordB ws ord = true
  case neg =>
    have hO' : ordB ws ord = false := by simpa using hO
    rw [hO'] at CO
    clear hw hl hs hd hlk hE hO hO' hok
    go_enter Try.func4, Try.ntmps4
    go_wp2_with fail
    refine (CF.out _ (by go_grown)).mono ?_
    rintro e1 w1 ⟨⟨b, rfl⟩, hb1⟩
    have B1 : Below w.heap.size w w1 := bvia (show Below w.heap.size w _ by go_grown) hb1
    have HB := Lib.hid (K0.below hb1 K0.lt)
    clear K0 hb1 CF
    cases b with
    | true =>
      go_wp2_with fail
      refine (shown10 _).mono ?_
      rintro e2 w2 ⟨rfl, hb2⟩
      go_wp2
      go_ret
      exact ⟨rfl, bvia B1 hb2⟩
    | false =>
      have a0 : w1.cell? ⟨w.heap.size, 0, none⟩ = some (.int .i64 p) := HB.out.cell 0
      have a1 : w1.cell? ⟨w.heap.size, 1, none⟩ = some (.slice A n c) := HB.out.cell 1
      have q := HB.out.lt
      go_wp2_with fail
      refine (CK.out _ B1).mono ?_
      rintro e2 w2 ⟨rfl, hb2⟩
      have B2 := bvia B1 hb2
      replace HB := Lib.hid (HB.out.below hb2 HB.out.lt)
      clear a0 a1 q hb2
      have a0 : w2.cell? ⟨w.heap.size, 0, none⟩ = some (.int .i64 p) := HB.out.cell 0
      have a1 : w2.cell? ⟨w.heap.size, 1, none⟩ = some (.slice A n c) := HB.out.cell 1
      have q := HB.out.lt
      go_wp2_with fail
      refine (CO.out _ B2).mono ?_
      rintro e3 w3 ⟨rfl, hb3⟩
      have B3 := bvia B2 hb3
      replace HB := Lib.hid (HB.out.below hb3 HB.out.lt)
      clear a0 a1 q hb3
      go_wp2_with fail
      refine (shown10 _).mono ?_
      rintro e4 w4 ⟨rfl, hb4⟩
      go_wp2
      go_ret
      exact ⟨rfl, bvia B3 hb4⟩
  rw [hO] at CO
  obtain rfl : k = n := by
    unfold ordB at hO
    have := ((Bool.and_eq_true_iff).1 hO).1
    rw [hlk, hl] at this
    simpa using this
  have CR := Lib.hid (fun (W : World) (hb : Below w.heap.size w W) => reorder16 p A D k c e ws ord W (hw.up hb) hl hok (hd.up hb) hO hlk)
  have CM := Lib.hid (fun (W : World) (hb : Below w.heap.size w W) => make11 p A k c ws W hn (hw.up hb) hl hE)
  have hok2 := reW_ok hok hO
  have hl2 : (reW ws ord).length = k := by unfold reW; rw [List.length_map]; exact hlk
  have CN := Lib.hid (fun (A4 : Option Addr) (c4 : Nat) (W : World) (hr : RdW W W.heap.size A4 (reW ws ord)) => make11 p A4 k c4 (reW ws ord) W hn hr hl2 (schk_of hok2))
  have AL := any_alike hO (fun x hx => by have := bad_at (hok.good x hx); have := hok.le; exact ⟨by omega, by omega⟩)
  have AH := fun th => any_hist hO (fun x hx => by have := bad_at (hok.good x hx); have := hok.le; exact ⟨by omega, by omega⟩) th
  rw [hl, hlk] at AL
  rw [hl, hlk] at AH
  have hk4 : k ≤ 400 := by rw [← hl]; exact hok.len
  obtain ⟨xs1, hx1⟩ : ∃ xs1, xs1 = (Mk.works ws k).xs := ⟨_, rfl⟩
  obtain ⟨ps1, hp1⟩ : ∃ ps1, ps1 = (Mk.works ws k).ps := ⟨_, rfl⟩
  obtain ⟨xs2, hx2⟩ : ∃ xs2, xs2 = (Mk.works (reW ws ord) k).xs := ⟨_, rfl⟩
  obtain ⟨ps2, hp2⟩ : ∃ ps2, ps2 = (Mk.works (reW ws ord) k).ps := ⟨_, rfl⟩
  have HN : Hid (xs1.length = xs2.length ∧ ps1.length = ps2.length ∧ xs1.length ≤ 20000) := by
    have h1 := AL.len
    have h2 := AL.np
    have h3 := (Mk.works_xs hok.short k).1
    refine ⟨?_, ?_, ?_⟩
    · rw [hx1, hx2]
      have : (Mk.works ws k).xs.length = ((Mk.works (reW ws ord) k).xs.map (relab (labW ord))).length := h1
      rwa [List.length_map] at this
    · rw [hp1, hp2]; exact h2
    · rw [hx1]; omega
  have HE1 := Mk.valid hok k (by rw [hl]; exact Nat.le_refl _)
  have HE2 := Mk.valid hok2 k (by rw [hl2]; exact Nat.le_refl _)
  have HR1 := Mk.endsR hok k (by rw [hl]; exact Nat.le_refl _)
  have HR2 := Mk.endsR hok2 k (by rw [hl2]; exact Nat.le_refl _)
  have hll : (Mk.works ws k).l = (Mk.works (reW ws ord) k).l := AL.l
  rw [← hll] at HR2
  have HH0 : Hid (∀ th : Int, ∀ y ∈ hist th (xs1.map (relab (labW (lineL k)))), 0 ≤ y.1) := fun th => by
    rw [hx1, relab_own]
    exact hist_lab (fun x hx => (Mk.works_lab ws k x hx).1) th
  rw [← hx1, ← hx2] at AH
  rw [← hx1, ← hp1] at CM HE1 HR1
  rw [← hx2, ← hp2] at CN HE2 HR2
  have HAH := Lib.hid AH
  obtain ⟨T, hT⟩ := Int.eq_ofNat_of_zero_le (show 0 ≤ 2 * p by have := hok.ge; omega)
  have hT48 : T ≤ 48 := by have := hok.le; omega
  have i0 : IntKind.i64.wrap (2 * p) = (T : Int) := by rw [hT]; exact IntWalk.i64_in _ (by omega)
  rw [hT] at CM CN HE1 HE2 HR1 HR2
  obtain ⟨Lf, hLf⟩ : ∃ Lf, Lf = List.take ((T : Int)).toNat (Mk.works ws k).l := ⟨_, rfl⟩
  rw [← hLf] at HR1 HR2
  have HENDS := Lib.hid (And.intro HE1 (And.intro HE2 (And.intro HR1 HR2)))
  have HD := Lib.hid hd
  have HLK := Lib.hid hlk
  clear hw hl hs hd hlk hE hO hok hok2 hl2 AL AH hx1 hp1 hx2 hp2 HE1 HE2 HR1 HR2 hll hT hLf
  go_enter Try.func4, Try.ntmps4
  go_wp2_with fail
  refine (CF.out _ (by go_grown)).mono ?_
  rintro e1 w1 ⟨⟨b, rfl⟩, hb1⟩
  have B1 : Below w.heap.size w w1 := bvia (show Below w.heap.size w _ by go_grown) hb1
  have HB := Lib.hid (K0.below hb1 K0.lt)
  clear K0 hb1 CF
  cases b with
  | true =>
    go_wp2_with fail
    refine (shown10 _).mono ?_
    rintro e2 w2 ⟨rfl, hb2⟩
    go_wp2
    go_ret
    exact ⟨rfl, bvia B1 hb2⟩
  | false =>
    have a0 : w1.cell? ⟨w.heap.size, 0, none⟩ = some (.int .i64 p) := HB.out.cell 0
    have a1 : w1.cell? ⟨w.heap.size, 1, none⟩ = some (.slice A k c) := HB.out.cell 1
    have q := HB.out.lt
    go_wp2_with fail
    refine (CK.out _ B1).mono ?_
    rintro e2 w2 ⟨rfl, hb2⟩
    have B2 := bvia B1 hb2
    replace HB := Lib.hid (HB.out.below hb2 HB.out.lt)
    clear a0 a1 q hb2
    have a0 : w2.cell? ⟨w.heap.size, 0, none⟩ = some (.int .i64 p) := HB.out.cell 0
    have a1 : w2.cell? ⟨w.heap.size, 1, none⟩ = some (.slice A k c) := HB.out.cell 1
    have q := HB.out.lt
    go_wp2_with fail
    refine (CO.out _ B2).mono ?_
    rintro e3 w3 ⟨rfl, hb3⟩
    have B3 := bvia B2 hb3
    replace HB := Lib.hid (HB.out.below hb3 HB.out.lt)
    clear a0 a1 q hb3
    have a0 : w3.cell? ⟨w.heap.size, 0, none⟩ = some (.int .i64 p) := HB.out.cell 0
    have a1 : w3.cell? ⟨w.heap.size, 1, none⟩ = some (.slice A k c) := HB.out.cell 1
    have q := HB.out.lt
    go_wp2_with fail
    refine (CR.out _ B3).mono ?_
    rintro e4 w4 ⟨A4, n4, c4, rfl, r4, l4, _, _, hb4⟩
    obtain rfl : k = n4 := by rw [← l4]; unfold reW; rw [List.length_map]; exact HLK.out.symm
    have HW4 := Lib.hid r4
    have B4 := bvia B3 hb4
    replace HB := Lib.hid (HB.out.below hb4 HB.out.lt)
    clear a0 a1 q r4 l4 hb4 CR CO CK
    obtain ⟨w5, hw5⟩ : ∃ w5, w5 = w4.alloc (.cells #[.int .i64 p, .slice A4 k c4] 24) := ⟨_, rfl⟩
    have hb5 : Below w4.heap.size w4 w5 := by rw [hw5]; go_grown
    have K5 : Has w5 w4.heap.size 24 [.int .i64 p, .slice A4 k c4] := by rw [hw5]; exact Has.new rfl
    go_upto_region 4 with (fail)
    rw [← hw5]
    obtain ⟨g5, hg5⟩ : ∃ g, g = w4.heap.size := ⟨_, rfl⟩
    rw [← hg5] at K5 ⊢
    have HW5 := Lib.hid (HW4.out.up hb5)
    have B5 := bvia B4 hb5
    replace HB := Lib.hid (HB.out.below hb5 HB.out.lt)
    have HK5 := Lib.hid K5
    clear hw5 hb5 hg5 K5 HW4
    have a0 : w5.cell? ⟨w.heap.size, 0, none⟩ = some (.int .i64 p) := HB.out.cell 0
    have a1 : w5.cell? ⟨w.heap.size, 1, none⟩ = some (.slice A k c) := HB.out.cell 1
    have q := HB.out.lt
    go_wp2_with fail
    refine (CM.out _ B5).mono ?_
    rintro e6 w6 ⟨A6, n6, c6, D6, m6, d6, rfl, x6, p6, ln6, lm6, hc6, hc6', hd6, hd6', hb6⟩
    have HX6 := Lib.hid x6
    have HP6 := Lib.hid p6
    have HL6 := Lib.hid ln6
    have HM6 := Lib.hid lm6
    have B6 := bvia B5 hb6
    replace HB := Lib.hid (HB.out.below hb6 HB.out.lt)
    have HK6 := HK5.out.below hb6 HK5.out.lt
    have HW6 := Lib.hid (HW5.out.up hb6)
    clear a0 a1 q x6 p6 ln6 lm6 hb6 CM HK5 HW5 B5
    obtain ⟨w7, hw7⟩ : ∃ w7, w7 = w6.alloc (.cells #[.int .i64 (T : Int), .slice A6 n6 c6, .slice D6 m6 d6] 30) := ⟨_, rfl⟩
    have hb7 : Below w6.heap.size w6 w7 := by rw [hw7]; go_grown
    have K7 : Has w7 w6.heap.size 30 [.int .i64 (T : Int), .slice A6 n6 c6, .slice D6 m6 d6] := by rw [hw7]; exact Has.new rfl
    go_upto_region 5 with (fail)
    rw [← hw7]
    obtain ⟨g7, hg7⟩ : ∃ g, g = w6.heap.size := ⟨_, rfl⟩
    rw [← hg7] at K7 ⊢
    have HW7 := Lib.hid (HW6.out.up hb7)
    have HX7 := Lib.hid (HX6.out.up hb7)
    have HP7 := Lib.hid (HP6.out.up hb7)
    have B7 := bvia B6 hb7
    replace HB := Lib.hid (HB.out.below hb7 HB.out.lt)
    have HG5 := HK6.below hb7 HK6.lt
    have HK7 := Lib.hid K7
    have b0 : w7.cell? ⟨g5, 0, none⟩ = some (.int .i64 p) := HG5.cell 0
    have b1 : w7.cell? ⟨g5, 1, none⟩ = some (.slice A4 k c4) := HG5.cell 1
    have q5 := HG5.lt
    clear hw7 hb7 hg7 K7 HW6 HX6 HP6 HK6 HG5 B6
    go_wp2_with fail
    refine (CN.out A4 c4 _ HW7.out).mono ?_
    rintro e8 w8 ⟨A8, n8, c8, D8, m8, d8, rfl, x8, p8, ln8, lm8, hc8, hc8', hd8, hd8', hb8⟩
    obtain rfl : n6 = n8 := by rw [← ln8, ← HL6.out]; exact HN.out.1
    obtain rfl : m6 = m8 := by rw [← lm8, ← HM6.out]; exact HN.out.2.1
    have HX8 := Lib.hid (HX7.out.up hb8)
    have HP8 := Lib.hid (HP7.out.up hb8)
    have HY8 := Lib.hid x8
    have HQ8 := Lib.hid p8
    have HL8 := Lib.hid ln8
    have HM8 := Lib.hid lm8
    have B8 := bvia B7 hb8
    replace HB := Lib.hid (HB.out.below hb8 HB.out.lt)
    have HK8 := Lib.hid (HK7.out.below hb8 HK7.out.lt)
    have h78 : g7 < w8.heap.size := HK8.out.lt
    clear b0 b1 q5 x8 p8 ln8 lm8 hb8 CN HK7 HX7 HP7 HW7 B7
    obtain ⟨w9, hw9⟩ : ∃ w9, w9 = w8.alloc (.cells #[.int .i64 (T : Int), .slice A8 n6 c8, .slice D8 m6 d8] 30) := ⟨_, rfl⟩
    have hb9 : Below w8.heap.size w8 w9 := by rw [hw9]; go_grown
    have K9 : Has w9 w8.heap.size 30 [.int .i64 (T : Int), .slice A8 n6 c8, .slice D8 m6 d8] := by rw [hw9]; exact Has.new rfl
    go_upto_region 6 with (fail)
    rw [← hw9]
    obtain ⟨g9, hg9⟩ : ∃ g, g = w8.heap.size := ⟨_, rfl⟩
    rw [← hg9] at K9 h78 ⊢
    have HX9 := Lib.hid (HX8.out.up hb9)
    have HP9 := Lib.hid (HP8.out.up hb9)
    have HY9 := Lib.hid (HY8.out.up hb9)
    have HQ9 := Lib.hid (HQ8.out.up hb9)
    have B9 := bvia B8 hb9
    replace HB := Lib.hid (HB.out.below hb9 HB.out.lt)
    have HA7 := Lib.hid (HK8.out.below hb9 HK8.out.lt)
    have HA9 := Lib.hid K9
    clear hw9 hb9 hg9 K9 HX8 HP8 HY8 HQ8 HK8 B8
    have a0 : w9.cell? ⟨w.heap.size, 0, none⟩ = some (.int .i64 p) := HB.out.cell 0
    have a1 : w9.cell? ⟨w.heap.size, 1, none⟩ = some (.slice A k c) := HB.out.cell 1
    have q := HB.out.lt
    have k0 : w9.cell? ⟨g7, 0, none⟩ = some (.int .i64 (T : Int)) := HA7.out.cell 0
    have k1 : w9.cell? ⟨g7, 1, none⟩ = some (.slice A6 n6 c6) := HA7.out.cell 1
    have k2 : w9.cell? ⟨g7, 2, none⟩ = some (.slice D6 m6 d6) := HA7.out.cell 2
    have l0 : w9.cell? ⟨g9, 0, none⟩ = some (.int .i64 (T : Int)) := HA9.out.cell 0
    have l1 : w9.cell? ⟨g9, 1, none⟩ = some (.slice A8 n6 c8) := HA9.out.cell 1
    have l2 : w9.cell? ⟨g9, 2, none⟩ = some (.slice D8 m6 d8) := HA9.out.cell 2
    have q7 := HA7.out.lt
    have q9 := HA9.out.lt
    have t0 : ((T : Int) != (T : Int)) = false := by simp
    have t1 : ((n6 : Int) != (n6 : Int)) = false := by simp
    have t2 : ((m6 : Int) != (m6 : Int)) = false := by simp
    have hmk := mkI17 k (by omega)
    obtain ⟨wa, hwa⟩ : ∃ wa, wa = w9.alloc (.cells (madeCells #[.int .i64 0] k) 3) := ⟨_, rfl⟩
    have hba : Below w9.heap.size w9 wa := by rw [hwa]; go_grown
    have Ka : Has wa w9.heap.size 3 (fillL k 0) := by rw [hwa]; exact Has.new (by rw [made_rep, fillL_zero])
    go_upto_region 9 with (fail)
    rw [← hwa]
    obtain ⟨gv, hgv⟩ : ∃ g, g = w9.heap.size := ⟨_, rfl⟩
    rw [← hgv] at Ka ⊢
    have HGV := Lib.hid hgv
    have HKa := Lib.hid Ka
    clear hmk hwa hgv Ka a0 a1 q k0 k1 k2 l0 l1 l2 q7 q9 t0 t1 t2
    go_wp2
    go_loopw [12] (fun i wr => ∃ j : Nat, j ≤ k ∧ i = .int .i64 (j : Int) ∧ Hid (Has wr gv 3 (fillL k j)) ∧ Below w9.heap.size w9 wr) (fun i _ => k - (intOf i).toNat)
    case atStart => exact ⟨0, Nat.zero_le _, rfl, HKa, hba⟩
    case round =>
      clear HKa hba
      obtain ⟨j, hj, rfl, HV, hb⟩ := hrel
      obtain ⟨wo, rfl⟩ : ∃ wo : World, wo = wr := ⟨_, rfl⟩
      by_cases hlt : j < k
      · have jk : (j : Int) < (k : Int) := by omega
        have v0 : wo.cell? ⟨gv, j, none⟩ = some (vInt 0) := (HV.out.cell j).trans (fillL_at hlt)
        have f0 := HV.out.free j
        have qv := HV.out.lt
        go_wp2
        go_roundw
        case rel =>
          have h := HV.out.set j (.int .i64 (j : Int))
          rw [fillL_set hlt] at h
          exact ⟨j + 1, by omega, by go_num, Lib.hid h, hb.setCell (by rw [HGV.out]; exact Nat.le_refl _) _⟩
        case measure => first | (simp [intOf]; done) | (simp [intOf]; omega)
      · obtain rfl : k = j := by omega
        have HV2 : Hid (RdI wo wo.heap.size (some ⟨gv, 0, none⟩) (lineL k)) := rdI_hasC (by have := HV.out; rwa [fillL_all] at this)
        have HB2 := Lib.hid (HB.out.below hb HB.out.lt)
        have H7 := Lib.hid (HA7.out.below hb HA7.out.lt)
        have H9 := Lib.hid (HA9.out.below hb HA9.out.lt)
        have HXw := Lib.hid (HX9.out.up hb)
        have HPw := Lib.hid (HP9.out.up hb)
        have HYw := Lib.hid (HY9.out.up hb)
        have HQw := Lib.hid (HQ9.out.up hb)
        have Bw := bvia B9 hb
        have HDw := Lib.hid (HD.out.up Bw)
        obtain ⟨wb, hwb⟩ : ∃ wb, wb = wo := ⟨_, rfl⟩
        rw [← hwb] at HV2 HB2 H7 H9 HXw HPw HYw HQw Bw HDw
        rw [← hwb]
        clear hb HV hwb HX9 HP9 HY9 HQ9 HA7 HA9 HB B9 HD
        go_wp2
        go_loopw [13] (fun i wr => ∃ q : Nat, q ≤ T ∧ i = .int .i64 (q : Int) ∧ Below wb.heap.size wb wr) (fun i _ => T - (intOf i).toNat)
        case atStart => exact ⟨0, Nat.zero_le _, rfl, Below.refl _ _⟩
        case round =>
          obtain ⟨q, hq, rfl, E0⟩ := hrel
          obtain ⟨wo, rfl⟩ : ∃ wo : World, wo = wr := ⟨_, rfl⟩
          have HK7 := Lib.hid (H7.out.below E0 H7.out.lt)
          have HK9 := Lib.hid (H9.out.below E0 H9.out.lt)
          have k0 : wo.cell? ⟨g7, 0, none⟩ = some (.int .i64 (T : Int)) := HK7.out.cell 0
          have k1 : wo.cell? ⟨g7, 1, none⟩ = some (.slice A6 n6 c6) := HK7.out.cell 1
          have k2 : wo.cell? ⟨g7, 2, none⟩ = some (.slice D6 m6 d6) := HK7.out.cell 2
          have l0 : wo.cell? ⟨g9, 0, none⟩ = some (.int .i64 (T : Int)) := HK9.out.cell 0
          have l1 : wo.cell? ⟨g9, 1, none⟩ = some (.slice A8 n6 c8) := HK9.out.cell 1
          have l2 : wo.cell? ⟨g9, 2, none⟩ = some (.slice D8 m6 d8) := HK9.out.cell 2
          have q7 := HK7.out.lt
          have q9 := HK9.out.lt
          by_cases hqT : q < T
          · have qT : (q : Int) < (T : Int) := by omega
            have J1 := Lib.hid (fun (W : World) (hW : Below wb.heap.size wb W) => history17 (T : Int) A6 D6 (some ⟨gv, 0, none⟩) n6 c6 m6 d6 k k (q : Int) xs1 (lineL k) W (by rw [← HL6.out]; exact HN.out.2.2) (HXw.out.up hW) HL6.out (HV2.out.up hW) (lineL_len k) (by omega))
            have J2 := Lib.hid (fun (W : World) (hW : Below wb.heap.size wb W) => history17 (T : Int) A8 D8 D n6 c8 m6 d8 k e (q : Int) xs2 ord W (by rw [← HL6.out]; exact HN.out.2.2) (HYw.out.up hW) HL8.out (HDw.out.up hW) HLK.out (by omega))
            have HEQ := Lib.hid (HAH.out (q : Int))
            have HPO := Lib.hid (HH0.out (q : Int))
            rw [← HEQ.out] at J2
            obtain ⟨H, hH⟩ : ∃ H, H = hist (q : Int) (xs1.map (relab (labW (lineL k)))) := ⟨_, rfl⟩
            rw [← hH] at J1 J2 HPO
            clear hH HEQ
            go_upto_region 16 with (fail)
            refine wp_region_noPanic ?_
            refine wp_region_B (fun b w' => w'.cell? ⟨g7, 0, none⟩ = some (.int .i64 (T : Int)) ∧ w'.cell? ⟨g7, 1, none⟩ = some (.slice A6 n6 c6) ∧ w'.cell? ⟨g7, 2, none⟩ = some (.slice D6 m6 d6) ∧ w'.cell? ⟨g9, 0, none⟩ = some (.int .i64 (T : Int)) ∧ w'.cell? ⟨g9, 1, none⟩ = some (.slice A8 n6 c8) ∧ w'.cell? ⟨g9, 2, none⟩ = some (.slice D8 m6 d8) ∧ (b = false → True)) 9 (by kernel_rfl) ?_
            have hSSh : (fun b w' => w'.cell? ⟨g7, 0, none⟩ = some (.int .i64 (T : Int)) ∧ w'.cell? ⟨g7, 1, none⟩ = some (.slice A6 n6 c6) ∧ w'.cell? ⟨g7, 2, none⟩ = some (.slice D6 m6 d6) ∧ w'.cell? ⟨g9, 0, none⟩ = some (.int .i64 (T : Int)) ∧ w'.cell? ⟨g9, 1, none⟩ = some (.slice A8 n6 c8) ∧ w'.cell? ⟨g9, 2, none⟩ = some (.slice D8 m6 d8) ∧ (b = false → True)) false (wo.drew) := ⟨k0, k1, k2, l0, l1, l2, fun _ => trivial⟩
            refine wpAnyB_take (i := 0) (oi := _) (v := ?vvh1) (fun w' => w'.cell? ⟨g7, 0, none⟩ = some (.int .i64 (T : Int)) ∧ w'.cell? ⟨g7, 1, none⟩ = some (.slice A6 n6 c6) ∧ w'.cell? ⟨g7, 2, none⟩ = some (.slice D6 m6 d6) ∧ w'.cell? ⟨g9, 0, none⟩ = some (.int .i64 (T : Int)) ∧ w'.cell? ⟨g9, 1, none⟩ = some (.slice A8 n6 c8) ∧ w'.cell? ⟨g9, 2, none⟩ = some (.slice D8 m6 d8)) rfl (by kernel_rfl) (by kernel_rfl) (by kernel_rfl) (by kernel_rfl) (by rfl) (fun _ h => ⟨h.1, h.2.1, h.2.2.1, h.2.2.2.1, h.2.2.2.2.1, h.2.2.2.2.2.1⟩) (.inl fun _ h => ⟨h.1, h.2.1, h.2.2.1, h.2.2.2.1, h.2.2.2.2.1, h.2.2.2.2.2.1⟩) (fun _ _ _ h => h) (.inl ⟨by rfl, ?hyh1⟩) hSSh ?_
            case hyh1 =>
              intro w' hSw
              try dsimp only at hSw
              go_simp
              all_goals with_reducible rfl
            try simp only [Act.put, List.setIfInBounds_toArray, List.set_cons_zero, List.set_cons_succ]
            refine wpAnyB_take (i := 1) (oi := _) (v := ?vvh2) (fun w' => w'.cell? ⟨g7, 0, none⟩ = some (.int .i64 (T : Int)) ∧ w'.cell? ⟨g7, 1, none⟩ = some (.slice A6 n6 c6) ∧ w'.cell? ⟨g7, 2, none⟩ = some (.slice D6 m6 d6) ∧ w'.cell? ⟨g9, 0, none⟩ = some (.int .i64 (T : Int)) ∧ w'.cell? ⟨g9, 1, none⟩ = some (.slice A8 n6 c8) ∧ w'.cell? ⟨g9, 2, none⟩ = some (.slice D8 m6 d8)) rfl (by kernel_rfl) (by kernel_rfl) (by kernel_rfl) (by kernel_rfl) (by rfl) (fun _ h => ⟨h.1, h.2.1, h.2.2.1, h.2.2.2.1, h.2.2.2.2.1, h.2.2.2.2.2.1⟩) (.inl fun _ h => ⟨h.1, h.2.1, h.2.2.1, h.2.2.2.1, h.2.2.2.2.1, h.2.2.2.2.2.1⟩) (fun _ _ _ h => h) (.inl ⟨by rfl, ?hyh2⟩) hSSh ?_
            case hyh2 =>
              intro w' hSw
              try dsimp only at hSw
              go_simp
              all_goals with_reducible rfl
            try simp only [Act.put, List.setIfInBounds_toArray, List.set_cons_zero, List.set_cons_succ]
            refine wpAnyB_take (i := 2) (oi := _) (v := ?vvh3) (fun w' => w'.cell? ⟨g7, 0, none⟩ = some (.int .i64 (T : Int)) ∧ w'.cell? ⟨g7, 1, none⟩ = some (.slice A6 n6 c6) ∧ w'.cell? ⟨g7, 2, none⟩ = some (.slice D6 m6 d6) ∧ w'.cell? ⟨g9, 0, none⟩ = some (.int .i64 (T : Int)) ∧ w'.cell? ⟨g9, 1, none⟩ = some (.slice A8 n6 c8) ∧ w'.cell? ⟨g9, 2, none⟩ = some (.slice D8 m6 d8)) rfl (by kernel_rfl) (by kernel_rfl) (by kernel_rfl) (by kernel_rfl) (by rfl) (fun _ h => ⟨h.1, h.2.1, h.2.2.1, h.2.2.2.1, h.2.2.2.2.1, h.2.2.2.2.2.1⟩) (.inl fun _ h => ⟨h.1, h.2.1, h.2.2.1, h.2.2.2.1, h.2.2.2.2.1, h.2.2.2.2.2.1⟩) (fun _ _ _ h => h) (.inl ⟨by rfl, ?hyh3⟩) hSSh ?_
            case hyh3 =>
              intro w' hSw
              try dsimp only at hSw
              go_simp
              all_goals with_reducible rfl
            try simp only [Act.put, List.setIfInBounds_toArray, List.set_cons_zero, List.set_cons_succ]
            refine wpAnyB_take (i := 4) (oi := _) (v := ?vvh4) (fun w' => w'.cell? ⟨g7, 0, none⟩ = some (.int .i64 (T : Int)) ∧ w'.cell? ⟨g7, 1, none⟩ = some (.slice A6 n6 c6) ∧ w'.cell? ⟨g7, 2, none⟩ = some (.slice D6 m6 d6) ∧ w'.cell? ⟨g9, 0, none⟩ = some (.int .i64 (T : Int)) ∧ w'.cell? ⟨g9, 1, none⟩ = some (.slice A8 n6 c8) ∧ w'.cell? ⟨g9, 2, none⟩ = some (.slice D8 m6 d8)) rfl (by kernel_rfl) (by kernel_rfl) (by kernel_rfl) (by kernel_rfl) (by rfl) (fun _ h => ⟨h.1, h.2.1, h.2.2.1, h.2.2.2.1, h.2.2.2.2.1, h.2.2.2.2.2.1⟩) (.inl fun _ h => ⟨h.1, h.2.1, h.2.2.1, h.2.2.2.1, h.2.2.2.2.1, h.2.2.2.2.2.1⟩) (fun _ _ _ h => h) (.inl ⟨by rfl, ?hyh4⟩) hSSh ?_
            case hyh4 =>
              intro w' hSw
              try dsimp only at hSw
              go_simp
              all_goals with_reducible rfl
            try simp only [Act.put, List.setIfInBounds_toArray, List.set_cons_zero, List.set_cons_succ]
            refine wpAnyB_take (i := 5) (oi := _) (v := ?vvh5) (fun w' => w'.cell? ⟨g7, 0, none⟩ = some (.int .i64 (T : Int)) ∧ w'.cell? ⟨g7, 1, none⟩ = some (.slice A6 n6 c6) ∧ w'.cell? ⟨g7, 2, none⟩ = some (.slice D6 m6 d6) ∧ w'.cell? ⟨g9, 0, none⟩ = some (.int .i64 (T : Int)) ∧ w'.cell? ⟨g9, 1, none⟩ = some (.slice A8 n6 c8) ∧ w'.cell? ⟨g9, 2, none⟩ = some (.slice D8 m6 d8)) rfl (by kernel_rfl) (by kernel_rfl) (by kernel_rfl) (by kernel_rfl) (by rfl) (fun _ h => ⟨h.1, h.2.1, h.2.2.1, h.2.2.2.1, h.2.2.2.2.1, h.2.2.2.2.2.1⟩) (.inl fun _ h => ⟨h.1, h.2.1, h.2.2.1, h.2.2.2.1, h.2.2.2.2.1, h.2.2.2.2.2.1⟩) (fun _ _ _ h => h) (.inl ⟨by rfl, ?hyh5⟩) hSSh ?_
            case hyh5 =>
              intro w' hSw
              try dsimp only at hSw
              go_simp
              all_goals with_reducible rfl
            try simp only [Act.put, List.setIfInBounds_toArray, List.set_cons_zero, List.set_cons_succ]
            refine wpAnyB_take (i := 6) (oi := _) (v := ?vvh6) (fun w' => w'.cell? ⟨g7, 0, none⟩ = some (.int .i64 (T : Int)) ∧ w'.cell? ⟨g7, 1, none⟩ = some (.slice A6 n6 c6) ∧ w'.cell? ⟨g7, 2, none⟩ = some (.slice D6 m6 d6) ∧ w'.cell? ⟨g9, 0, none⟩ = some (.int .i64 (T : Int)) ∧ w'.cell? ⟨g9, 1, none⟩ = some (.slice A8 n6 c8) ∧ w'.cell? ⟨g9, 2, none⟩ = some (.slice D8 m6 d8)) rfl (by kernel_rfl) (by kernel_rfl) (by kernel_rfl) (by kernel_rfl) (by rfl) (fun _ h => ⟨h.1, h.2.1, h.2.2.1, h.2.2.2.1, h.2.2.2.2.1, h.2.2.2.2.2.1⟩) (.inl fun _ h => ⟨h.1, h.2.1, h.2.2.1, h.2.2.2.1, h.2.2.2.2.1, h.2.2.2.2.2.1⟩) (fun _ _ _ h => h) (.inl ⟨by rfl, ?hyh6⟩) hSSh ?_
            case hyh6 =>
              intro w' hSw
              try dsimp only at hSw
              go_simp
              all_goals with_reducible rfl
            try simp only [Act.put, List.setIfInBounds_toArray, List.set_cons_zero, List.set_cons_succ]
            refine wpAnyB_one (i := 3) false rfl (by kernel_rfl) (by kernel_rfl) ?_
            intro KK hKK
            go_simp
            go_at_call 17
            refine (J1.out _ (E0.drew)).mono ?_
            rintro e1 w12 ⟨A12, n12, c12, rfl, o12, l12, hb12⟩
            have E12 := E0.drew.trans (hb12.mono (E0.drew).size)
            have p7 := H7.out.below E12 H7.out.lt
            have p9 := H9.out.below E12 H9.out.lt
            have hcp12 := own_caps o12
            refine hKK.out _ _ ⟨(p7.cell 0), (p7.cell 1), (p7.cell 2), (p9.cell 0), (p9.cell 1), (p9.cell 2), fun _ => trivial⟩ ?_
            clear hKK KK
            try simp only [Act.put, List.setIfInBounds_toArray, List.set_cons_zero, List.set_cons_succ]
            refine wpAnyB_one (i := 7) false rfl (by kernel_rfl) (by kernel_rfl) ?_
            intro KK hKK
            go_simp
            go_at_call 17
            refine (J2.out _ E12).mono ?_
            rintro e2 w13 ⟨A13, n13, c13, rfl, o13, l13, hb13⟩
            have E13 := E12.trans (hb13.mono E12.size)
            have q7 := H7.out.below E13 H7.out.lt
            have q9 := H9.out.below E13 H9.out.lt
            have HO12 := Lib.hid (own_rdM (own_below o12 hb13))
            have HO13 := Lib.hid (own_rdM o13)
            have HL12 := Lib.hid l12
            have HL13 := Lib.hid l13
            clear o12 o13 l12 l13 hb12 hb13 p7 p9
            refine hKK.out _ _ ⟨(q7.cell 0), (q7.cell 1), (q7.cell 2), (q9.cell 0), (q9.cell 1), (q9.cell 2), fun _ => trivial⟩ ?_
            clear hKK KK
            try simp only [Act.put, List.setIfInBounds_toArray, List.set_cons_zero, List.set_cons_succ]
            refine wpAnyB_one (i := 8) false rfl (by kernel_rfl) (by kernel_rfl) ?_
            intro KK hKK
            go_simp
            refine hKK.out _ _ ⟨(q7.cell 0), (q7.cell 1), (q7.cell 2), (q9.cell 0), (q9.cell 1), (q9.cell 2), fun _ => trivial⟩ ?_
            clear hKK KK
            try simp only [Act.put, List.setIfInBounds_toArray, List.set_cons_zero, List.set_cons_succ]
            refine wpAnyB_one (i := 9) true rfl (by kernel_rfl) (by kernel_rfl) ?_
            intro KK hKK
            go_simp
            refine hKK.out _ _ ⟨(q7.cell 0), (q7.cell 1), (q7.cell 2), (q9.cell 0), (q9.cell 1), (q9.cell 2), fun hh => by cases hh⟩ ?_
            clear hKK KK
            try simp only [Act.put, List.setIfInBounds_toArray, List.set_cons_zero, List.set_cons_succ]
            refine wpAnyB_done (by kernel_rfl) (NoPanic.normal ?_) _
            obtain rfl : n12 = n13 := by rw [← HL12.out, HL13.out]
            clear k0 k1 k2 l0 l1 l2 q7 q9 J1 J2
            have t3 : ((n12 : Int) != (n12 : Int)) = false := by simp
            have hn12 : n12 ≤ 9223372036854775807 := Nat.le_trans hcp12.1 hcp12.2
            go_wp2
            go_loopw [16] (fun i wr => ∃ j : Nat, j ≤ n12 ∧ i = .int .i64 (j : Int) ∧ Below w13.heap.size w13 wr) (fun i _ => n12 - (intOf i).toNat)
            case atStart => exact ⟨0, Nat.zero_le _, rfl, by first | exact Below.refl _ _ | exact Below.drew (Below.refl _ _)⟩
            case round =>
              obtain ⟨j, hj, rfl, hb⟩ := hrel
              obtain ⟨wz, rfl⟩ : ∃ wz : World, wz = wr := ⟨_, rfl⟩
              have hz := hb.size
              by_cases hlt : j < n12
              · obtain ⟨y, hy⟩ := get_of_lt (l := H) (k := j) (by rw [HL12.out]; exact hlt)
                have hy0 := HPO.out y (mem_of_get hy)
                obtain ⟨bu, ou, rfl, hbu, u0, u1, u2⟩ := HO12.out _ y hy
                obtain ⟨bv, ov, rfl, hbv, v0, v1, v2⟩ := HO13.out _ y hy
                have x0 := (hb.cell (p := ⟨bu, ou + j * 3, none⟩) hbu).trans u0
                have x1 := (hb.cell (p := ⟨bu, ou + j * 3 + 1, none⟩) hbu).trans u1
                have x2 := (hb.cell (p := ⟨bu, ou + j * 3 + 2, none⟩) hbu).trans u2
                have y0 := (hb.cell (p := ⟨bv, ov + j * 3, none⟩) hbv).trans v0
                have y1 := (hb.cell (p := ⟨bv, ov + j * 3 + 1, none⟩) hbv).trans v1
                have y2 := (hb.cell (p := ⟨bv, ov + j * 3 + 2, none⟩) hbv).trans v2
                have zu : bu < wz.heap.size := by omega
                have zv : bv < wz.heap.size := by omega
                have jn : (j : Int) < (n12 : Int) := by omega
                have EQ := fun W => eqMt y.1 y.2.1 y.2.2 W
                have dneg : decide (y.1 < 0) = false := decide_eq_false (by omega)
                clear hy u0 u1 u2 v0 v1 v2 hy0
                have HJ := Lib.hid hlt
                go_wp2
                have hxc := fun (x : Ext wz) => x.cell
                refine wp_region_ext (by kernel_rfl) (by kernel_rfl) ?_
                repeat (go_big_quiet_step (fail))
                refine wpQuiet_nil ?_
                intro w6 hw'
                have hb6 := ext_below hw'; clear hw' hxc
                have B6 := hb.trans (hb6.mono hz)
                clear hb6
                go_wp2
                go_roundw
                case rel => exact ⟨j + 1, (by have := HJ.out; omega), by go_num, B6⟩
                case measure => (have := HJ.out; first | (simp [intOf]; done) | (simp [intOf]; omega))
              · obtain rfl : n12 = j := by omega
                go_wp2
                go_roundw
                case rel => exact ⟨q + 1, by omega, by go_num, E13.trans (hb.mono E13.size)⟩
                case measure => first | (simp [intOf]; done) | (simp [intOf]; omega)
          · obtain rfl : T = q := by omega
            obtain ⟨HE1, HE2, HR1, HR2⟩ := HENDS.out
            have M1 := Lib.hid (ends18 (T : Int) A6 D6 n6 c6 m6 d6 xs1 ps1 wo (Nat.le_trans hc6 hc6') (Nat.le_trans hd6 hd6') (HXw.out.up E0) (HPw.out.up E0) HL6.out HM6.out (by omega))
            have M2 := Lib.hid (fun (W : World) (hW : Below wo.heap.size wo W) => ends18 (T : Int) A8 D8 n6 c8 m6 d8 xs2 ps2 W (Nat.le_trans hc8 hc8') (Nat.le_trans hd8 hd8') (HYw.out.up (bvia E0 hW)) (HQw.out.up (bvia E0 hW)) HL8.out HM8.out (by omega))
            rw [HE1, HR1] at M1
            rw [HE2, HR2] at M2
            clear HE1 HE2 HR1 HR2
            go_wp2_with fail
            refine M1.out.mono ?_
            rintro e5 w5 ⟨A5, n5, c5, rfl, r5, l5, hn5, hc5, hb5⟩
            have HR5 := Lib.hid r5
            have HN5 := Lib.hid l5
            have HK9b := HK9.out.below hb5 HK9.out.lt
            clear k0 k1 k2 l0 l1 l2 q7 q9 M1 r5 l5
            have l0 : w5.cell? ⟨g9, 0, none⟩ = some (.int .i64 (T : Int)) := HK9b.cell 0
            have l1 : w5.cell? ⟨g9, 1, none⟩ = some (.slice A8 n6 c8) := HK9b.cell 1
            have l2 : w5.cell? ⟨g9, 2, none⟩ = some (.slice D8 m6 d8) := HK9b.cell 2
            have q9 := HK9b.lt
            go_wp2_with fail
            refine (M2.out _ hb5).mono ?_
            rintro e6 w6 ⟨A7, n7, c7, rfl, r7, l7, hn7, hc7, hb6⟩
            have HR7 := Lib.hid r7
            have HR5b := Lib.hid (HR5.out.up hb6)
            obtain rfl : n5 = n7 := by rw [← HN5.out, l7]
            have Bz := bvia (bvia (bvia Bw E0) hb5) hb6
            have J := Lib.hid (sameInts04 A5 A7 n5 n5 c5 c7 Lf Lf w6 (Nat.le_trans hn5 hc5) (Nat.le_trans hn5 hc5) HR5b.out HR7.out HN5.out HN5.out)
            have eL : (Lf == Lf) = true := by simp
            rw [eL] at J
            clear l0 l1 l2 q9 M2 r7 l7 eL hb5 hb6 HR5 HK9b
            go_wp2_with fail
            refine J.out.mono ?_
            rintro e8 w8 ⟨rfl, hb8⟩
            go_wp2_with fail
            refine (shown10 _).mono ?_
            rintro e9 w9 ⟨rfl, hb9⟩
            go_wp2
            go_ret
            exact ⟨rfl, bvia (bvia Bz hb8) hb9⟩
end Go.Proofs.Ytpljaoagiaijiaa
