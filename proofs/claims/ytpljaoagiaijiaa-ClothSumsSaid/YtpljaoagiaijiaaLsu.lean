/-
  Walk of the law ClothSums.
-/
import Derived.Test.YtpljaoagiaijiaaLmk
import Derived.Test.YtpljaoagiaijiaaMkv
import Derived.Test.Ytpljaoagiaijiaa3m
namespace Go.Proofs.Ytpljaoagiaijiaa
open Go.RowKit
/-! ### counts of a made cloth -/
theorem Mk.crosses_xl (s : Mk) (i : Int) (mid : Nat) (ns : List Int) : ∀ k, k ≤ ns.length → (s.crosses i mid ns k).xs.length = s.xs.length + k
  | 0, _ => rfl
  | k + 1, hk => by
    obtain ⟨n, hn⟩ := get_of_lt (l := ns) (k := k) (by omega)
    rw [Mk.crosses_succ hn]
    have := Mk.crosses_xl s i mid ns k (by omega)
    unfold Mk.cross
    simp only [List.length_append, List.length_singleton]
    omega
theorem Mk.letter_cnt (s : Mk) (i : Int) (mid : Nat) (c : UInt8) : (s.letter i mid c).xs.length = s.xs.length + (crT (twV c) 3).length ∧ (s.letter i mid c).ps.length = s.ps.length + if c = 80 then 1 else 0 := by
  unfold Mk.letter
  by_cases h : c = 80
  · rw [if_pos h, if_pos h, h]
    refine ⟨?_, ?_⟩
    · show s.xs.length = s.xs.length + (crT (twV 80) 3).length
      rw [show crT (twV 80) 3 = [] by decide]; rfl
    · unfold Mk.pin; simp
  · rw [if_neg h, if_neg h, Mk.crosses_ps]
    refine ⟨?_, rfl⟩
    rw [Mk.crosses_xl _ _ _ _ _ (Nat.le_refl _)]
    rfl
theorem Mk.letters_cnt (s : Mk) (i : Int) (mid : Nat) (bs : List UInt8) : ∀ k, k ≤ bs.length → (s.letters i mid bs k).xs.length = s.xs.length + (crW bs k).length ∧ (s.letters i mid bs k).ps.length = s.ps.length + (bs.take k).count 80
  | 0, _ => by simp [Mk.letters, crW]
  | k + 1, hk => by
    obtain ⟨c, hc⟩ := get_of_lt (l := bs) (k := k) (by omega)
    obtain ⟨h1, h2⟩ := Mk.letters_cnt s i mid bs k (by omega)
    obtain ⟨h3, h4⟩ := Mk.letter_cnt (s.letters i mid bs k) i mid c
    rw [Mk.letters_succ hc, h3, h4, h1, h2, crW_succ hc, List.length_append, List.take_add_one, hc, List.count_append]
    have e : List.count 80 (some c).toList = if c = 80 then 1 else 0 := by simp [List.count_cons]
    rw [e]
    omega
theorem Mk.works_cnt {ws : List Wk} {k : Nat} {x : Wk} (hx : ws[k]? = some x) (hok : wOk x.word = true) :
    (Mk.works ws (k + 1)).xs.length = (Mk.works ws k).xs.length + (mvC x.word.data.toList + mvT x.word.data.toList) ∧ (Mk.works ws (k + 1)).ps.length = (Mk.works ws k).ps.length + mvP x.word.data.toList + if x.kind = 2 then 1 else 0 := by
  obtain ⟨e1, e2⟩ := mv_len (fun c hc => (List.all_eq_true.1 hok) c hc) x.word.data.toList.length (Nat.le_refl _)
  rw [List.take_length] at e1 e2
  rw [Mk.works_succ hx]
  unfold Mk.work
  obtain ⟨h1, h2⟩ := Mk.letters_cnt (if x.kind = 2 then (Mk.works ws k).pin (k : Int) (mkMid x) else Mk.works ws k) (k : Int) (mkMid x) x.word.data.toList x.word.data.toList.length (Nat.le_refl _)
  rw [List.take_length] at h2
  by_cases hk : x.kind = 2
  · simp only [if_pos hk] at h1 h2 ⊢
    have e : ((Mk.works ws k).pin (k : Int) (mkMid x)).xs.length = (Mk.works ws k).xs.length := rfl
    have e' : ((Mk.works ws k).pin (k : Int) (mkMid x)).ps.length = (Mk.works ws k).ps.length + 1 := by unfold Mk.pin; simp
    omega
  · simp only [if_neg hk] at h1 h2 ⊢
    omega
theorem ofTo_comm (xs : List Q4) (a b : Int) : ∀ k, ofTo xs [a, b] k = ofTo xs [b, a] k
  | 0 => rfl
  | k + 1 => by
    have e : ∀ x, [a, b].all (ofP x) = [b, a].all (ofP x) := fun x => by simp [Bool.and_comm]
    unfold ofTo
    rw [ofTo_comm xs a b k]
    simp only [e]
theorem bool3 : ∀ {X Y Z : Bool}, ((X != Y) == Z) = true → (!(X == Y)) = Z := by decide
/-- a place, if it is among the first q -/
def posV (i q : Nat) : Int := if i < q then (i : Int) else -1
theorem posV_hit (i : Nat) : posV i (i + 1) = (i : Int) := by unfold posV; rw [if_pos (Nat.lt_succ_self i)]
theorem posV_miss {i q : Nat} (h : i ≠ q) : posV i (q + 1) = posV i q := by
  unfold posV
  by_cases h2 : i < q
  · rw [if_pos h2, if_pos (by omega)]
  · rw [if_neg h2, if_neg (by omega)]
theorem ask2 {T : Nat} {xs ps : List Q4} {a b : Nat} (hv : ckE (T : Int) xs ps = 0) (ha : a < T) (hb : b < T) (hab : a ≠ b) : askE (T : Int) xs ps [(a : Int), (b : Int)] = 0 := by
  unfold askE
  rw [if_pos hv, if_pos]
  have h1 : inT (T : Int) (a : Int) = true := by unfold inT; simp; omega
  have h2 : inT (T : Int) (b : Int) = true := by unfold inT; simp; omega
  simp [thTo, h1, h2]
  omega
set_option maxRecDepth 100000 in
set_option maxHeartbeats 8000000 in
theorem sumsOf (p : Int) (A : Option Addr) (n c : Nat) (o1 o2 : Int) (ws : List Wk) (w : World) (hn : n ≤ 9223372036854775807) (hw : RdW w w.heap.size A ws) (hl : ws.length = n) (hs : ∀ x ∈ ws, x.word.size ≤ 9223372036854775807) (ho1 : 0 ≤ o1 ∧ o1 ≤ 255) (ho2 : 0 ≤ o2 ∧ o2 ≤ 255) :
    Calls Try.prog 5 #[.agg #[.int .i64 p, .slice A n c], .int .u8 o1, .int .u8 o2] w fun e w' => e = .returned (.bool true) ∧ Below w.heap.size w w' := by
  have HW := Lib.hid hw
  have HL := Lib.hid hl
  have CF := Lib.hid (fun (W : World) (hb : Below w.heap.size w W) => far9 p A n c ws W hn (hw.up hb) hl hs)
  have CK := Lib.hid (fun (W : World) (hb : Below w.heap.size w W) => check04 p A n c ws W hn (hw.up hb) hl hs)
  have K0 : Has (w.alloc (.cells #[.int .i64 p, .slice A n c] 24)) w.heap.size 24 [.int .i64 p, .slice A n c] := Has.new rfl
  by_cases h40 : 40 < n
  · have d40 : decide ((40 : Int) < (n : Int)) = true := decide_eq_true (by omega)
    clear hw hl hs CK
    go_enter Try.func5, Try.ntmps5
    go_wp2_with fail
    refine (CF.out _ (by go_grown)).mono ?_
    rintro e w1 ⟨⟨b, rfl⟩, hb1⟩
    have B1 : Below w.heap.size w w1 := bvia (show Below w.heap.size w _ by go_grown) hb1
    have HB := K0.below hb1 K0.lt
    have a1 : w1.cell? ⟨w.heap.size, 1, none⟩ = some (.slice A n c) := HB.cell 1
    have q := HB.lt
    clear K0 hb1 CF HB
    cases b <;> (go_wp2_with fail; refine (shown10 _).mono ?_; rintro e w2 ⟨rfl, hb2⟩; go_wp2; go_ret; exact ⟨rfl, bvia B1 hb2⟩)
  have d40 : decide ((40 : Int) < (n : Int)) = false := decide_eq_false (by omega)
  by_cases hE : schk p ws = 0
  · have HOK := Lib.hid (schk_zero hE)
    rw [hE] at CK
    have CM := Lib.hid (fun (W : World) (hb : Below w.heap.size w W) => make11 p A n c ws W hn (hw.up hb) hl hE)
    clear hw hl hs hE
    obtain ⟨T, hT⟩ := Int.eq_ofNat_of_zero_le (show 0 ≤ 2 * p by have := HOK.out.ge; omega)
    have hT4 : 4 ≤ T ∧ T ≤ 48 := by have := HOK.out.ge; have := HOK.out.le; omega
    have HTP : Hid (2 * p = (T : Int)) := hT
    have i0 : IntKind.i64.wrap (2 * p) = (T : Int) := by rw [hT]; exact IntWalk.i64_in _ (by omega)
    rw [hT] at CM
    clear hT
    go_enter Try.func5, Try.ntmps5
    go_wp2_with fail
    refine (CF.out _ (by go_grown)).mono ?_
    rintro e w1 ⟨⟨b, rfl⟩, hb1⟩
    have B1 : Below w.heap.size w w1 := bvia (show Below w.heap.size w _ by go_grown) hb1
    have HB := Lib.hid (K0.below hb1 K0.lt)
    clear K0 hb1 CF
    cases b with
    | true =>
      go_wp2_with fail
      refine (shown10 _).mono ?_
      rintro e w2 ⟨rfl, hb2⟩
      go_wp2
      go_ret
      exact ⟨rfl, bvia B1 hb2⟩
    | false =>
      have a0 : w1.cell? ⟨w.heap.size, 0, none⟩ = some (.int .i64 p) := HB.out.cell 0
      have a1 : w1.cell? ⟨w.heap.size, 1, none⟩ = some (.slice A n c) := HB.out.cell 1
      have q := HB.out.lt
      go_wp2_with fail
      refine (CK.out _ B1).mono ?_
      rintro e w2 ⟨rfl, hb2⟩
      have B2 := bvia B1 hb2
      have HB2 := Lib.hid (HB.out.below hb2 HB.out.lt)
      clear a0 a1 q hb2 B1 HB
      have a0 : w2.cell? ⟨w.heap.size, 0, none⟩ = some (.int .i64 p) := HB2.out.cell 0
      have a1 : w2.cell? ⟨w.heap.size, 1, none⟩ = some (.slice A n c) := HB2.out.cell 1
      have q := HB2.out.lt
      go_wp2_with fail
      refine (CM.out _ B2).mono ?_
      rintro e w3 ⟨A3, n3, c3, D3, m3, d3, rfl, x3, p3, ln3, lm3, hc3, hc3', hd3, hd3', hb3⟩
      have HX3 := Lib.hid x3
      have HP3 := Lib.hid p3
      have HL3 := Lib.hid ln3
      have HM3 := Lib.hid lm3
      have B3 := bvia B2 hb3
      have HB3 := HB2.out.below hb3 HB2.out.lt
      clear a0 a1 q x3 p3 ln3 lm3 hb3 CM B2 HB2 CK
      obtain ⟨w4, hw4⟩ : ∃ w4, w4 = w3.alloc (.cells #[.int .i64 (T : Int), .slice A3 n3 c3, .slice D3 m3 d3] 30) := ⟨_, rfl⟩
      have hb4 : Below w3.heap.size w3 w4 := by rw [hw4]; go_grown
      have K4 : Has w4 w3.heap.size 30 [.int .i64 (T : Int), .slice A3 n3 c3, .slice D3 m3 d3] := by rw [hw4]; exact Has.new rfl
      go_upto_region 4 with (fail)
      rw [← hw4]
      obtain ⟨g7, hg7⟩ : ∃ g, g = w3.heap.size := ⟨_, rfl⟩
      have h7 : w.heap.size < g7 := by rw [hg7]; exact HB3.lt
      rw [← hg7] at K4 ⊢
      have HX4 := Lib.hid (HX3.out.up hb4)
      have HP4 := Lib.hid (HP3.out.up hb4)
      have HB4 := Lib.hid (HB3.below hb4 HB3.lt)
      have B4 := bvia B3 hb4
      have HK4 := Lib.hid K4
      clear hw4 hb4 hg7 K4 HX3 HP3 HB3 B3
      have a0 : w4.cell? ⟨w.heap.size, 0, none⟩ = some (.int .i64 p) := HB4.out.cell 0
      have a1 : w4.cell? ⟨w.heap.size, 1, none⟩ = some (.slice A n c) := HB4.out.cell 1
      have q := HB4.out.lt
      have b0 : w4.cell? ⟨g7, 0, none⟩ = some (.int .i64 (T : Int)) := HK4.out.cell 0
      have qg := HK4.out.lt
      have t0 : ((T : Int) != (T : Int)) = false := by simp
      go_wp2
      go_loopw [9, 10, 11] (fun x y i wr => ∃ k : Nat, k ≤ n ∧ i = .int .i64 (k : Int) ∧ x = .int .i64 ((Mk.works ws k).xs.length : Nat) ∧ y = .int .i64 ((Mk.works ws k).ps.length : Nat) ∧ Below w4.heap.size w4 wr) (fun _ _ i _ => n - (intOf i).toNat)
      case atStart => exact ⟨0, Nat.zero_le _, rfl, rfl, rfl, Below.refl _ _⟩
      case round =>
        clear a0 a1 q b0 qg
        obtain ⟨k, hk, rfl, rfl, rfl, hb⟩ := hrel
        obtain ⟨wo, rfl⟩ : ∃ wo : World, wo = wr := ⟨_, rfl⟩
        have HBo := HB4.out.below hb HB4.out.lt
        have a1 : wo.cell? ⟨w.heap.size, 1, none⟩ = some (.slice A n c) := HBo.cell 1
        have q := HBo.lt
        have Bo := bvia B4 hb
        by_cases hlt : k < n
        · obtain ⟨x, hx⟩ := get_of_lt (l := ws) (k := k) (by rw [HL.out]; exact hlt)
          have hform := HOK.out.form x (mem_of_get hx)
          have hshort := HOK.out.short x (mem_of_get hx)
          have HN := Lib.hid (Mk.works_cnt hx hform)
          have HZ : Hid ((Mk.works ws (k + 1)).xs.length ≤ 48 * (k + 1) ∧ (Mk.works ws (k + 1)).ps.length ≤ 17 * (k + 1)) := Mk.works_xs HOK.out.short (k + 1)
          obtain ⟨ba, o, rfl, hba, c0, c1, c2⟩ := (HW.out.up Bo) _ x hx
          have CV := Lib.hid (moves20 x.word wo hshort hform)
          have jn : (k : Int) < (n : Int) := by omega
          obtain ⟨mc, hmc⟩ : ∃ mc, mc = mvC x.word.data.toList := ⟨_, rfl⟩
          obtain ⟨mt, hmt⟩ : ∃ mt, mt = mvT x.word.data.toList := ⟨_, rfl⟩
          obtain ⟨mp, hmp⟩ : ∃ mp, mp = mvP x.word.data.toList := ⟨_, rfl⟩
          rw [← hmc, ← hmt, ← hmp] at CV
          rw [← hmc, ← hmt, ← hmp] at HN
          obtain ⟨nx, hnx⟩ : ∃ nx, nx = (Mk.works ws k).xs.length := ⟨_, rfl⟩
          obtain ⟨np, hnp⟩ : ∃ np, np = (Mk.works ws k).ps.length := ⟨_, rfl⟩
          rw [← hnx, ← hnp] at HN ⊢
          have hz1 : nx + (mc + mt) ≤ 48 * (k + 1) := by have h1 := HN.out.1; have h2 := HZ.out.1; omega
          have hz2 : np + mp + 1 ≤ 17 * (k + 1) + 1 := by have h1 := HN.out.2; have h2 := HZ.out.2; split at h1 <;> omega
          clear hmc hmt hmp hnx hnp hform hx
          go_wp2_with fail
          refine CV.out.mono ?_
          rintro e w5 ⟨rfl, hb5⟩
          have c0' : w5.cell? ⟨ba, o + k * 3, none⟩ = some (.int .i64 x.kind) := (hb5.cell (p := ⟨ba, _, none⟩) hba).trans c0
          have a1' : w5.cell? ⟨w.heap.size, 1, none⟩ = some (.slice (some ⟨ba, o, none⟩) n c) := (HBo.below hb5 q).cell 1
          have q' := (HBo.below hb5 q).lt
          have hba' := Nat.lt_of_lt_of_le hba hb5.size
          have B5 := hb.trans (hb5.mono hb.size)
          have i1 : IntKind.i64.wrap ((nx : Int) + (mc : Int)) = ((nx + mc : Nat) : Int) := by rw [IntWalk.i64_in _ (by omega)]; omega
          have i2 : IntKind.i64.wrap (((nx + mc : Nat) : Int) + (mt : Int)) = ((nx + mc + mt : Nat) : Int) := by rw [IntWalk.i64_in _ (by omega)]; omega
          have i3 : IntKind.i64.wrap ((np : Int) + (mp : Int)) = ((np + mp : Nat) : Int) := by rw [IntWalk.i64_in _ (by omega)]; omega
          have hz := B5.size
          clear hb hb5 c0 c1 c2 a1 q HBo CV Bo hba
          by_cases hkd : x.kind = 2
          · have hd : (x.kind == 2) = true := by simpa using hkd
            have i4 : IntKind.i64.wrap (((np + mp : Nat) : Int) + 1) = ((np + mp + 1 : Nat) : Int) := by rw [IntWalk.i64_in _ (by omega)]; omega
            have HN2 : Hid ((Mk.works ws (k + 1)).xs.length = nx + mc + mt ∧ (Mk.works ws (k + 1)).ps.length = np + mp + 1) := by
              have h := HN.out
              rw [if_pos hkd] at h
              exact ⟨by omega, by omega⟩
            go_wp2
            go_roundw
            case rel => exact ⟨k + 1, by omega, by go_num, by rw [HN2.out.1]; simp, by rw [HN2.out.2]; simp, B5.alloc hz _⟩
            case measure => first | (simp [intOf]; done) | (simp [intOf]; omega)
          · have hd : (x.kind == 2) = false := by simpa using hkd
            have HN2 : Hid ((Mk.works ws (k + 1)).xs.length = nx + mc + mt ∧ (Mk.works ws (k + 1)).ps.length = np + mp) := by
              have h := HN.out
              rw [if_neg hkd] at h
              exact ⟨by omega, by omega⟩
            go_wp2
            go_roundw
            case rel => exact ⟨k + 1, by omega, by go_num, by rw [HN2.out.1]; simp, by rw [HN2.out.2]; simp, B5.alloc hz _⟩
            case measure => first | (simp [intOf]; done) | (simp [intOf]; omega)
        · obtain rfl : n = k := by omega
          have HKo := Lib.hid (HK4.out.below hb HK4.out.lt)
          have HXo := Lib.hid (HX4.out.up (hb))
          have HPo := Lib.hid (HP4.out.up (hb))
          have b0 : wo.cell? ⟨g7, 0, none⟩ = some (.int .i64 (T : Int)) := HKo.out.cell 0
          have b1 : wo.cell? ⟨g7, 1, none⟩ = some (.slice A3 n3 c3) := HKo.out.cell 1
          have b2 : wo.cell? ⟨g7, 2, none⟩ = some (.slice D3 m3 d3) := HKo.out.cell 2
          have qg := HKo.out.lt
          rw [HL3.out, HM3.out]
          have t1 : ((n3 : Int) != (n3 : Int)) = false := by simp
          have t2 : ((m3 : Int) != (m3 : Int)) = false := by simp
          have T0 : (T : Int) ≠ 0 := by omega
          have T1 : ((T : Int) == 0) = false := by simpa using T0
          have v1 : IntKind.i64.wrap o1 = o1 := IntWalk.i64_in _ (by omega)
          have v2 : IntKind.i64.wrap o2 = o2 := IntWalk.i64_in _ (by omega)
          obtain ⟨a, ha⟩ := Int.eq_ofNat_of_zero_le (Int.emod_nonneg o1 T0)
          have haT : a < T := by have := Int.emod_lt_of_pos o1 (show (0 : Int) < (T : Int) by omega); omega
          have S0 : (T : Int) - 1 ≠ 0 := by omega
          have S1 : ((T : Int) - 1 == 0) = false := by simpa using S0
          obtain ⟨r, hr⟩ := Int.eq_ofNat_of_zero_le (Int.emod_nonneg o2 S0)
          have hrT : r + 1 < T := by have := Int.emod_lt_of_pos o2 (show (0 : Int) < (T : Int) - 1 by omega); omega
          obtain ⟨b, hb9⟩ := Int.eq_ofNat_of_zero_le (Int.emod_nonneg ((a : Int) + 1 + (r : Int)) T0)
          have hbT : b < T := by have := Int.emod_lt_of_pos ((a : Int) + 1 + (r : Int)) (show (0 : Int) < (T : Int) by omega); omega
          have hab : a ≠ b := by
            intro e
            subst e
            have h1 := Int.emod_add_mul_ediv ((a : Int) + 1 + (r : Int)) (T : Int)
            rw [hb9] at h1
            obtain ⟨z, hz⟩ : ∃ z, z = ((a : Int) + 1 + (r : Int)) / (T : Int) := ⟨_, rfl⟩
            rw [← hz] at h1
            have h2 : (T : Int) * z = 1 + (r : Int) := by omega
            have h3 : 0 < z := by
              rcases (show 0 < z ∨ z ≤ 0 by omega) with h | h
              · exact h
              · have := Int.mul_le_mul_of_nonneg_left h (show (0 : Int) ≤ (T : Int) by omega)
                rw [Int.mul_zero] at this
                omega
            have h4 := Int.mul_le_mul_of_nonneg_left (show (1 : Int) ≤ z by omega) (show (0 : Int) ≤ (T : Int) by omega)
            rw [Int.mul_one] at h4
            omega
          have v3 : IntKind.i64.wrap ((a : Int) + 1) = (a : Int) + 1 := IntWalk.i64_in _ (by omega)
          have v4 : IntKind.i64.wrap ((T : Int) - 1) = (T : Int) - 1 := IntWalk.i64_in _ (by omega)
          have v5 : IntKind.i64.wrap ((a : Int) + 1 + o2 % ((T : Int) - 1)) = (a : Int) + 1 + (r : Int) := by rw [hr]; exact IntWalk.i64_in _ (by omega)
          have v6 : (0 : Int) ≤ (a : Int) + 1 + (r : Int) := by omega
          have v7 : ((a : Int) + 1 + (r : Int)).tmod (T : Int) = (b : Int) := by rw [Int.tmod_eq_emod_of_nonneg v6, hb9]
          have HV8 : Hid ((IntKind.i64.wrap ((a : Int) + 1 + o2.tmod ((T : Int) - 1))).tmod (T : Int) = (b : Int)) := by show (IntKind.i64.wrap ((a : Int) + 1 + o2.tmod ((T : Int) - 1))).tmod (T : Int) = (b : Int); rw [Int.tmod_eq_emod_of_nonneg ho2.1, v5]; exact v7
          have HHA := Lib.hid ha
          clear hr hb9 ha
          go_upto_region 18 with (fail)
          rw [HHA.out]
          have T2 : T ≠ 0 := by omega
          go_region_held3 (fun W => W.cell? ⟨g7, 0, none⟩ = some (.int .i64 (T : Int))) (go_keep) (fail)
          rw [HV8.out]
          clear v1 v2 v3 v4 v5 v6 v7 HHA HV8 S0 S1 T0 T1 T2
          obtain ⟨L, hL⟩ : ∃ L, L = ofTo (Mk.works ws n).xs [(a : Int), (b : Int)] (Mk.works ws n).xs.length := ⟨_, rfl⟩
          have HV := Lib.hid (Mk.valid HOK.out n (by rw [HL.out]; exact Nat.le_refl _))
          rw [HTP.out] at HV
          have hA1 : askE (T : Int) (Mk.works ws n).xs (Mk.works ws n).ps [(a : Int), (b : Int)] = 0 := ask2 HV.out haT hbT hab
          have hA2 : askE (T : Int) (Mk.works ws n).xs (Mk.works ws n).ps [(b : Int), (a : Int)] = 0 := ask2 HV.out hbT haT (Ne.symm hab)
          have hR1 : ofR (T : Int) (Mk.works ws n).xs (Mk.works ws n).ps [(a : Int), (b : Int)] = L := by unfold ofR; rw [if_pos hA1, hL]
          have hR2 : ofR (T : Int) (Mk.works ws n).xs (Mk.works ws n).ps [(b : Int), (a : Int)] = L := by unfold ofR; rw [if_pos hA2, hL, ofTo_comm]
          have hLen : L.length = meetC (Mk.works ws n).xs (a : Int) (b : Int) := by rw [hL, ofTo_len _ _ _ (Nat.le_refl _), List.take_length]; rfl
          have M1 := Lib.hid (fun (W : World) (hW : Below wo.heap.size wo W) => meet21 (T : Int) A3 D3 n3 c3 m3 d3 (a : Int) (b : Int) _ _ W (Nat.le_trans hc3 hc3') (Nat.le_trans hd3 hd3') (HXo.out.up hW) (HPo.out.up hW) HL3.out HM3.out (by omega))
          have M2 := Lib.hid (fun (W : World) (hW : Below wo.heap.size wo W) => meet21 (T : Int) A3 D3 n3 c3 m3 d3 (b : Int) (a : Int) _ _ W (Nat.le_trans hc3 hc3') (Nat.le_trans hd3 hd3') (HXo.out.up hW) (HPo.out.up hW) HL3.out HM3.out (by omega))
          have M3 := Lib.hid (fun (W : World) (hW : Below wo.heap.size wo W) => ends18 (T : Int) A3 D3 n3 c3 m3 d3 _ _ W (Nat.le_trans hc3 hc3') (Nat.le_trans hd3 hd3') (HXo.out.up hW) (HPo.out.up hW) HL3.out HM3.out (by omega))
          rw [hR1, hA1] at M1
          rw [hR2, hA2] at M2
          have hEN : endsR (T : Int) (Mk.works ws n).xs (Mk.works ws n).ps = (Mk.works ws n).l.take T := by
            have h := Mk.endsR HOK.out n (by rw [HL.out]; exact Nat.le_refl _)
            rw [HTP.out] at h
            exact h
          rw [HV.out, hEN] at M3
          have HLEN := Lib.hid hLen
          clear hA1 hA2 hR1 hR2 hL hLen hEN HV
          go_wp2_with fail
          refine (M1.out _ (Below.drew (Below.refl _ _))).mono ?_
          rintro e w5 ⟨A5, n5, c5, rfl, r5, l5, _, _, hb5⟩
          have E5 : Below wo.heap.size wo w5 := (Below.drew (Below.refl wo.heap.size wo)).trans hb5
          have HR5 := Lib.hid r5
          have HN5 := Lib.hid l5
          have HK5 := HKo.out.below E5 HKo.out.lt
          clear b0 b1 b2 qg hb5 r5 l5 HX4 HP4 M1
          have b0 : w5.cell? ⟨g7, 0, none⟩ = some (.int .i64 (T : Int)) := HK5.cell 0
          have b1 : w5.cell? ⟨g7, 1, none⟩ = some (.slice A3 n3 c3) := HK5.cell 1
          have b2 : w5.cell? ⟨g7, 2, none⟩ = some (.slice D3 m3 d3) := HK5.cell 2
          have qg := HK5.lt
          go_wp2_with fail
          refine (M2.out _ E5).mono ?_
          rintro e w6 ⟨A6, n6, c6, rfl, r6, l6, _, _, hb6⟩
          have E6 := bvia E5 hb6
          have HR6 := Lib.hid r6
          have HN6 := Lib.hid l6
          have HK6 := HK5.below hb6 HK5.lt
          have HR5 := Lib.hid (HR5.out.up hb6)
          clear b0 b1 b2 qg hb6 r6 l6 HK5 E5 M2
          have b0 : w6.cell? ⟨g7, 0, none⟩ = some (.int .i64 (T : Int)) := HK6.cell 0
          have b1 : w6.cell? ⟨g7, 1, none⟩ = some (.slice A3 n3 c3) := HK6.cell 1
          have b2 : w6.cell? ⟨g7, 2, none⟩ = some (.slice D3 m3 d3) := HK6.cell 2
          have qg := HK6.lt
          go_wp2_with fail
          refine (M3.out _ E6).mono ?_
          rintro e w7 ⟨A7, n7, c7, rfl, r7, l7, hc7, hc7', hb7⟩
          have E7 := bvia E6 hb7
          have HR7 := Lib.hid r7
          have HN7 : Hid (n7 = T) := by
            show n7 = T
            rw [← l7, List.length_take, Mk.works_len]
            omega
          have HR5 := Lib.hid (HR5.out.up hb7)
          have HR6 := Lib.hid (HR6.out.up hb7)
          clear b0 b1 b2 qg hb7 r7 l7 HK6 E6 M3
          obtain rfl : n5 = n6 := by rw [← HN5.out, HN6.out]
          have J := Lib.hid (sameInts04 A5 A6 n5 n5 c5 c6 L L w7 (by omega) (by omega) HR5.out HR6.out HN5.out HN6.out)
          have eL : (L == L) = true := by simp
          rw [eL] at J
          go_wp2_with fail
          refine J.out.mono ?_
          rintro e w8 ⟨rfl, hb8⟩
          have E8 := bvia E7 hb8
          have HR8 := Lib.hid (HR7.out.up hb8)
          obtain rfl : T = n7 := HN7.out.symm
          clear J eL hb8 E7 HR7 HR5 HR6
          go_wp2
          have G := MkG.works HOK.out n
          have O := Mk.order HOK.out (a := (a : Int)) (b := (b : Int)) (by omega) n
          rw [HTP.out] at G O
          have eT : ((T : Int)).toNat = T := by simp
          rw [eT] at G O
          obtain ⟨ia, hia, hla⟩ := G.sur a haT
          obtain ⟨ib, hib, hlb⟩ := G.sur b hbT
          have hO := O ia ib hia hib hla hlb
          have HINJ : Hid (∀ (q : Nat) (v : Int), q < T → (Mk.works ws n).l[q]? = some v → ((v = (a : Int) ↔ q = ia) ∧ (v = (b : Int) ↔ q = ib))) := fun q v hq hv =>
            ⟨⟨fun e => G.inj q ia _ hq hia hv (by rw [hla, e]), fun e => by subst e; rw [hla] at hv; injection hv with hv; exact hv.symm⟩, ⟨fun e => G.inj q ib _ hq hib hv (by rw [hlb, e]), fun e => by subst e; rw [hlb] at hv; injection hv with hv; exact hv.symm⟩⟩
          have HRG := Lib.hid G.rng
          have hii : ia ≠ ib := fun e => by
            rw [e, hlb] at hla
            injection hla with h
            exact hab (by omega)
          have HO : Hid (ia < ib ↔ (a < b ↔ n5 % 2 = 0)) := by
            have h1 := HLEN.out
            rw [HN5.out] at h1
            rw [← h1] at hO
            show ia < ib ↔ (a < b ↔ n5 % 2 = 0)
            rw [hO]
            omega
          obtain ⟨g21, hg21⟩ : ∃ g, g = w8.heap.size := ⟨_, rfl⟩
          obtain ⟨w9, hw9⟩ : ∃ w9, w9 = w8.alloc (.cells #[.int .i64 (-1), .int .i64 (-1)] 54) := ⟨_, rfl⟩
          have HG9 : Hid (Has w9 g21 54 [.int .i64 (posV ia 0), .int .i64 (posV ib 0)]) := by rw [hw9, hg21]; exact Has.new rfl
          have E9 : Below w8.heap.size w8 w9 := by rw [hw9]; go_grown
          rw [← hw9, ← hg21]
          have HGG := Lib.hid hg21
          clear hw9 hg21 G O hla hlb hO eT
          go_loopw [22] (fun i wr => ∃ q : Nat, q ≤ T ∧ i = .int .i64 (q : Int) ∧ Hid (Has wr g21 54 [.int .i64 (posV ia q), .int .i64 (posV ib q)]) ∧ Below w8.heap.size w8 wr) (fun i _ => T - (intOf i).toNat)
          case atStart => exact ⟨0, Nat.zero_le _, rfl, HG9, E9⟩
          case round =>
            clear HG9 E9
            obtain ⟨q, hq, rfl, HG, hbq⟩ := hrel
            obtain ⟨wq, rfl⟩ : ∃ wq : World, wq = wr := ⟨_, rfl⟩
            have x0 : wq.cell? ⟨g21, 0, none⟩ = some (.int .i64 (posV ia q)) := HG.out.cell 0
            have x1 : wq.cell? ⟨g21, 1, none⟩ = some (.int .i64 (posV ib q)) := HG.out.cell 1
            have f0 := HG.out.free 0
            have f1 := HG.out.free 1
            have qq := HG.out.lt
            by_cases hlt : q < T
            · obtain ⟨v, hv, _, _⟩ := HRG.out q hlt
              obtain ⟨hva, hvb⟩ := HINJ.out q v hlt hv
              obtain ⟨bl, ol, rfl, hbl8, cv8⟩ := HR8.out q v (by rw [List.getElem?_take, if_pos hlt]; exact hv)
              have cv := (hbq.cell (p := ⟨bl, ol + q, none⟩) hbl8).trans cv8
              have hbl : bl < wq.heap.size := Nat.lt_of_lt_of_le hbl8 hbq.size
              have nbl : bl ≠ g21 := by rw [HGG.out]; omega
              have nbl' : g21 ≠ bl := Ne.symm nbl
              clear cv8 hbl8
              have qT : (q : Int) < (T : Int) := by omega
              clear hv
              by_cases e1 : q = ia
              · have d1 : (v == (a : Int)) = true := by simpa using hva.2 e1
                have d2 : (v == (b : Int)) = false := by
                  rw [beq_eq_false_iff_ne]
                  intro h
                  exact hii (by rw [← e1]; exact hvb.1 h)
                have hne : ib ≠ q := fun e => hii (by omega)
                have HE := Lib.hid e1
                have HNE := Lib.hid hne
                clear hva hvb e1 hne
                go_wp2
                go_roundw
                case rel =>
                  have h := HG.out.set 0 (.int .i64 (q : Int))
                  exact ⟨q + 1, by omega, by go_num, Lib.hid (by rw [posV_miss HNE.out, ← HE.out, posV_hit]; exact h), hbq.setCell (by rw [HGG.out]; exact Nat.le_refl _) _⟩
                case measure => first | (simp [intOf]; done) | (simp [intOf]; omega)
              · by_cases e2 : q = ib
                · have d1 : (v == (a : Int)) = false := by
                    rw [beq_eq_false_iff_ne]
                    intro h
                    exact e1 (hva.1 h)
                  have d2 : (v == (b : Int)) = true := by simpa using hvb.2 e2
                  have HE := Lib.hid e2
                  have HNE := Lib.hid e1
                  clear hva hvb e1 e2
                  go_wp2
                  go_roundw
                  case rel =>
                    have h := HG.out.set 1 (.int .i64 (q : Int))
                    exact ⟨q + 1, by omega, by go_num, Lib.hid (by rw [posV_miss (Ne.symm HNE.out), ← HE.out, posV_hit]; exact h), hbq.setCell (by rw [HGG.out]; exact Nat.le_refl _) _⟩
                  case measure => first | (simp [intOf]; done) | (simp [intOf]; omega)
                · have d1 : (v == (a : Int)) = false := by
                    rw [beq_eq_false_iff_ne]
                    intro h
                    exact e1 (hva.1 h)
                  have d2 : (v == (b : Int)) = false := by
                    rw [beq_eq_false_iff_ne]
                    intro h
                    exact e2 (hvb.1 h)
                  clear hva hvb
                  go_wp2
                  go_roundw
                  case rel => exact ⟨q + 1, by omega, by go_num, Lib.hid (by rw [posV_miss (Ne.symm e1), posV_miss (Ne.symm e2)]; exact HG.out), hbq⟩
                  case measure => first | (simp [intOf]; done) | (simp [intOf]; omega)
            · obtain rfl : T = q := by omega
              have y0 : wq.cell? ⟨g21, 0, none⟩ = some (.int .i64 (ia : Int)) := by rw [x0]; unfold posV; rw [if_pos hia]
              have y1 : wq.cell? ⟨g21, 1, none⟩ = some (.int .i64 (ib : Int)) := by rw [x1]; unfold posV; rw [if_pos hib]
              clear x0 x1 f0 f1
              have dia : decide ((0 : Int) ≤ (ia : Int)) = true := decide_eq_true (by omega)
              have dib : decide ((0 : Int) ≤ (ib : Int)) = true := decide_eq_true (by omega)
              obtain ⟨X, hX⟩ : ∃ X, X = decide (a < b) := ⟨_, rfl⟩
              obtain ⟨Y, hY⟩ : ∃ Y, Y = decide (ia < ib) := ⟨_, rfl⟩
              obtain ⟨Z, hZ⟩ : ∃ Z, Z = decide (n5 % 2 = 1) := ⟨_, rfl⟩
              have HXYZ : Hid (((X != Y) == Z) = true) := by
                have h := HO.out
                show ((X != Y) == Z) = true
                rw [hX, hY, hZ]
                by_cases h1 : a < b <;> by_cases h2 : ia < ib <;> by_cases h3 : n5 % 2 = 1 <;> simp [h1, h2, h3] <;> omega
              have da : decide ((a : Int) < (b : Int)) = X := by rw [hX]; exact decide_eq_decide.2 (by omega)
              have da' : decide (a < b) = X := hX.symm
              have di : decide ((ia : Int) < (ib : Int)) = Y := by rw [hY]; exact decide_eq_decide.2 (by omega)
              have di' : decide (ia < ib) = Y := hY.symm
              have dn : ((n5 : Int) % 2 == 1) = Z := by rw [hZ, Bool.eq_iff_iff]; simp; omega
              have hz1 : (!(X == Y)) = Z := bool3 HXYZ.out
              clear hX hY hZ
              have hn5 : (0 : Int) ≤ (n5 : Int) := by omega
              go_wp2_with fail
              refine (shown10 _).mono ?_
              rintro e wz ⟨rfl, hbz⟩
              go_wp2
              go_ret
              exact ⟨rfl, bvia (bvia (bvia B4 (hb.trans (E8.mono hb.size))) hbq) hbz⟩
  · generalize schk p ws = r at *
    have hr : (r != 0) = true := by simpa using hE
    clear hw hl hs hE
    go_enter Try.func5, Try.ntmps5
    go_wp2_with fail
    refine (CF.out _ (by go_grown)).mono ?_
    rintro e w1 ⟨⟨b, rfl⟩, hb1⟩
    have B1 : Below w.heap.size w w1 := bvia (show Below w.heap.size w _ by go_grown) hb1
    have HB := Lib.hid (K0.below hb1 K0.lt)
    clear K0 hb1 CF
    cases b with
    | true =>
      go_wp2_with fail
      refine (shown10 _).mono ?_
      rintro e w2 ⟨rfl, hb2⟩
      go_wp2
      go_ret
      exact ⟨rfl, bvia B1 hb2⟩
    | false =>
      have a0 : w1.cell? ⟨w.heap.size, 0, none⟩ = some (.int .i64 p) := HB.out.cell 0
      have a1 : w1.cell? ⟨w.heap.size, 1, none⟩ = some (.slice A n c) := HB.out.cell 1
      have q := HB.out.lt
      go_wp2_with fail
      refine (CK.out _ B1).mono ?_
      rintro e w2 ⟨rfl, hb2⟩
      have B2 := bvia B1 hb2
      clear a0 a1 q hb2
      go_wp2_with fail
      refine (shown10 _).mono ?_
      rintro e w3 ⟨rfl, hb3⟩
      go_wp2
      go_ret
      exact ⟨rfl, bvia B2 hb3⟩
end Go.Proofs.Ytpljaoagiaijiaa
