/-
  Walk of the law ClothPlaces.
-/
import Derived.Test.YtpljaoagiaijiaaV1
import Derived.Test.YtpljaoagiaijiaaV14
import Derived.Test.YtpljaoagiaijiaaV17
import Derived.Test.YtpljaoagiaijiaaV21
import Derived.Lib.SmallJoins
import Derived.Deep.Slices
import Derived.Deep.Strs
import Derived.OpenShut
import Derived.Carry
namespace Go.Proofs.Ytpljaoagiaijiaa
open Go.RowKit
/-- the first j entries from the one list, the others from the other -/
def mixL (l1 l0 : List Int) (j : Nat) : List Int := l1.take j ++ l0.drop j
theorem mix_get {l1 l0 : List Int} {T : Nat} (h1 : l1.length = T) (h0 : l0.length = T) (j i : Nat) : (mixL l1 l0 j)[i]? = if i < j then l1[i]? else l0[i]? := by
  unfold mixL
  by_cases h : i < j
  · rw [if_pos h]
    by_cases h2 : i < T
    · rw [List.getElem?_append_left (by rw [List.length_take]; omega), List.getElem?_take, if_pos h]
    · rw [List.getElem?_eq_none (by rw [List.length_append, List.length_take, List.length_drop]; omega), List.getElem?_eq_none (by omega)]
  · rw [if_neg h]
    by_cases h2 : j ≤ T
    · rw [List.getElem?_append_right (by rw [List.length_take]; omega), List.getElem?_drop, List.length_take]
      congr 1; omega
    · rw [List.getElem?_eq_none (by rw [List.length_append, List.length_take, List.length_drop]; omega), List.getElem?_eq_none (by omega)]
theorem mix_len {l1 l0 : List Int} {T : Nat} (h1 : l1.length = T) (h0 : l0.length = T) (j : Nat) : (mixL l1 l0 j).length = T := by
  unfold mixL
  rw [List.length_append, List.length_take, List.length_drop]; omega
theorem mix_set {l1 l0 : List Int} {T : Nat} (h1 : l1.length = T) (h0 : l0.length = T) {j : Nat} {v : Int} (hv : l1[j]? = some v) : (mixL l1 l0 j).set j v = mixL l1 l0 (j + 1) := by
  have hj := lt_of_get hv
  apply List.ext_getElem?
  intro i
  rw [mix_get h1 h0, List.getElem?_set, mix_len h1 h0, mix_get h1 h0]
  by_cases e : j = i
  · subst e
    rw [if_pos rfl, if_pos (by omega), if_pos (Nat.lt_succ_self _), hv]
  · rw [if_neg e]
    by_cases h : i < j
    · rw [if_pos h, if_pos (by omega)]
    · rw [if_neg h, if_neg (by omega)]
theorem mix_start {l1 l0 : List Int} {T : Nat} (h1 : l1.length = T) (h0 : l0.length = T) {a : Nat} (h : ∀ i, i < a → l1[i]? = l0[i]?) : mixL l1 l0 a = l0 := by
  apply List.ext_getElem?
  intro i
  rw [mix_get h1 h0]
  by_cases e : i < a
  · rw [if_pos e, h i e]
  · rw [if_neg e]
theorem mix_end {l1 l0 : List Int} {T : Nat} (h1 : l1.length = T) (h0 : l0.length = T) {a : Nat} (h : ∀ i, a ≤ i → l1[i]? = l0[i]?) : mixL l1 l0 a = l1 := by
  apply List.ext_getElem?
  intro i
  rw [mix_get h1 h0]
  by_cases e : i < a
  · rw [if_pos e]
  · rw [if_neg e, h i (by omega)]
theorem rdI_from {w : World} {g a : Nat} {t : TypeId} {L : List Int} (h : Has w g t (L.map vInt)) : RdI w w.heap.size (some ⟨g, a, none⟩) ((L.drop a).take 4) := fun k x hx => by
  refine ⟨g, a, rfl, h.lt, ?_⟩
  rw [h.cell, List.getElem?_map]
  rw [List.getElem?_take] at hx
  split at hx
  · rw [List.getElem?_drop] at hx
    rw [hx]; rfl
  · cases hx
theorem take_get {l : List Int} {T i : Nat} (h : i < T) : (l.take T)[i]? = l[i]? := by rw [List.getElem?_take, if_pos h]
set_option maxRecDepth 100000 in
set_option maxHeartbeats 8000000 in
theorem placesOf (p : Int) (A : Option Addr) (n c : Nat) (ws : List Wk) (w : World) (hn : n ≤ 9223372036854775807) (hw : RdW w w.heap.size A ws) (hl : ws.length = n) (hs : ∀ x ∈ ws, x.word.size ≤ 9223372036854775807) :
    Calls Try.prog 7 #[.agg #[.int .i64 p, .slice A n c]] w fun e w' => e = .returned (.bool true) ∧ Below w.heap.size w w' := by
  have HW := Lib.hid hw
  have HL := Lib.hid hl
  have CF := Lib.hid (fun (W : World) (hb : Below w.heap.size w W) => far9 p A n c ws W hn (hw.up hb) hl hs)
  have CK := Lib.hid (fun (W : World) (hb : Below w.heap.size w W) => check04 p A n c ws W hn (hw.up hb) hl hs)
  have K0 : Has (w.alloc (.cells #[.int .i64 p, .slice A n c] 24)) w.heap.size 24 [.int .i64 p, .slice A n c] := Has.new rfl
  by_cases h60 : 60 < n
  · have d60 : decide ((60 : Int) < (n : Int)) = true := decide_eq_true (by omega)
    clear hw hl hs CK
    go_enter Try.func7, Try.ntmps7
    go_wp2_with fail
    refine (CF.out _ (by go_grown)).mono ?_
    rintro e w1 ⟨⟨b, rfl⟩, hb1⟩
    have B1 : Below w.heap.size w w1 := bvia (show Below w.heap.size w _ by go_grown) hb1
    have HB := K0.below hb1 K0.lt
    have a1 : w1.cell? ⟨w.heap.size, 1, none⟩ = some (.slice A n c) := HB.cell 1
    have q := HB.lt
    clear K0 hb1 CF HB
    cases b <;> (go_wp2_with fail; refine (shown10 _).mono ?_; rintro e w2 ⟨rfl, hb2⟩; go_wp2; go_ret; exact ⟨rfl, bvia B1 hb2⟩)
  have d60 : decide ((60 : Int) < (n : Int)) = false := decide_eq_false (by omega)
  by_cases hE : schk p ws = 0
  case neg =>
    have hd : (schk p ws != 0) = true := by simpa using hE
    generalize schk p ws = er at *
    clear hw hl hs hE
    go_enter Try.func7, Try.ntmps7
    go_wp2_with fail
    refine (CF.out _ (by go_grown)).mono ?_
    rintro e w1 ⟨⟨b, rfl⟩, hb1⟩
    have B1 : Below w.heap.size w w1 := bvia (show Below w.heap.size w _ by go_grown) hb1
    have HB := Lib.hid (K0.below hb1 K0.lt)
    clear K0 hb1 CF
    cases b with
    | true =>
      go_wp2_with fail
      refine (shown10 _).mono ?_
      rintro e w2 ⟨rfl, hb2⟩
      go_wp2
      go_ret
      exact ⟨rfl, bvia B1 hb2⟩
    | false =>
      have a0 : w1.cell? ⟨w.heap.size, 0, none⟩ = some (.int .i64 p) := HB.out.cell 0
      have a1 : w1.cell? ⟨w.heap.size, 1, none⟩ = some (.slice A n c) := HB.out.cell 1
      have q := HB.out.lt
      go_wp2_with fail
      refine (CK.out _ B1).mono ?_
      rintro e w2 ⟨rfl, hb2⟩
      have B2 := bvia B1 hb2
      clear a0 a1 q hb2 B1 HB
      go_wp2_with fail
      refine (shown10 _).mono ?_
      rintro e w3 ⟨rfl, hb3⟩
      go_wp2
      go_ret
      exact ⟨rfl, bvia B2 hb3⟩
  have HOK := Lib.hid (schk_zero hE)
  rw [hE] at CK
  have CM := Lib.hid (fun (W : World) (hb : Below w.heap.size w W) => make11 p A n c ws W hn (hw.up hb) hl hE)
  clear hw hl hs hE
  obtain ⟨T, hT⟩ := Int.eq_ofNat_of_zero_le (show 0 ≤ 2 * p by have := HOK.out.ge; omega)
  have hT4 : 4 ≤ T ∧ T ≤ 48 := by have := HOK.out.ge; have := HOK.out.le; omega
  have HTP : Hid (2 * p = (T : Int)) := hT
  have i0 : IntKind.i64.wrap (2 * p) = (T : Int) := by rw [hT]; exact IntWalk.i64_in _ (by omega)
  have HV := Lib.hid (Mk.valid HOK.out n (by rw [HL.out]; exact Nat.le_refl _))
  have HEN := Lib.hid (Mk.endsR HOK.out n (by rw [HL.out]; exact Nat.le_refl _))
  have HLN := Lib.hid (MkG.works HOK.out n).line
  rw [hT] at CM HV HEN
  rw [show ((T : Nat) : Int).toNat = T by simp] at HEN
  clear hT
  go_enter Try.func7, Try.ntmps7
  go_wp2_with fail
  refine (CF.out _ (by go_grown)).mono ?_
  rintro e w1 ⟨⟨b, rfl⟩, hb1⟩
  have B1 : Below w.heap.size w w1 := bvia (show Below w.heap.size w _ by go_grown) hb1
  have HB := Lib.hid (K0.below hb1 K0.lt)
  clear K0 hb1 CF
  cases b with
  | true =>
    go_wp2_with fail
    refine (shown10 _).mono ?_
    rintro e w2 ⟨rfl, hb2⟩
    go_wp2
    go_ret
    exact ⟨rfl, bvia B1 hb2⟩
  | false =>
    have a0 : w1.cell? ⟨w.heap.size, 0, none⟩ = some (.int .i64 p) := HB.out.cell 0
    have a1 : w1.cell? ⟨w.heap.size, 1, none⟩ = some (.slice A n c) := HB.out.cell 1
    have q := HB.out.lt
    go_wp2_with fail
    refine (CK.out _ B1).mono ?_
    rintro e w2 ⟨rfl, hb2⟩
    have B2 := bvia B1 hb2
    have HB2 := Lib.hid (HB.out.below hb2 HB.out.lt)
    clear a0 a1 q hb2 B1 HB
    have a0 : w2.cell? ⟨w.heap.size, 0, none⟩ = some (.int .i64 p) := HB2.out.cell 0
    have a1 : w2.cell? ⟨w.heap.size, 1, none⟩ = some (.slice A n c) := HB2.out.cell 1
    have q := HB2.out.lt
    go_wp2_with fail
    refine (CM.out _ B2).mono ?_
    rintro e w3 ⟨A3, n3, c3, D3, m3, d3, rfl, x3, p3, ln3, lm3, hc3, hc3', hd3, hd3', hb3⟩
    have HX3 := Lib.hid x3
    have HP3 := Lib.hid p3
    have HL3 := Lib.hid ln3
    have HM3 := Lib.hid lm3
    have B3 := bvia B2 hb3
    have HB3 := HB2.out.below hb3 HB2.out.lt
    clear a0 a1 q x3 p3 ln3 lm3 hb3 CM B2 HB2 CK
    obtain ⟨w4, hw4⟩ : ∃ w4, w4 = w3.alloc (.cells #[.int .i64 (T : Int), .slice A3 n3 c3, .slice D3 m3 d3] 30) := ⟨_, rfl⟩
    have hb4 : Below w3.heap.size w3 w4 := by rw [hw4]; go_grown
    have K4 : Has w4 w3.heap.size 30 [.int .i64 (T : Int), .slice A3 n3 c3, .slice D3 m3 d3] := by rw [hw4]; exact Has.new rfl
    go_upto_region 4 with (fail)
    rw [← hw4]
    obtain ⟨g7, hg7⟩ : ∃ g, g = w3.heap.size := ⟨_, rfl⟩
    have h7 : w.heap.size < g7 := by rw [hg7]; exact HB3.lt
    rw [← hg7] at K4 ⊢
    have HX4 := Lib.hid (HX3.out.up hb4)
    have HP4 := Lib.hid (HP3.out.up hb4)
    have HB4 := Lib.hid (HB3.below hb4 HB3.lt)
    have B4 := bvia B3 hb4
    have HK4 := Lib.hid K4
    clear hw4 hb4 hg7 K4 HX3 HP3 HB3 B3
    have a0 : w4.cell? ⟨w.heap.size, 0, none⟩ = some (.int .i64 p) := HB4.out.cell 0
    have a1 : w4.cell? ⟨w.heap.size, 1, none⟩ = some (.slice A n c) := HB4.out.cell 1
    have q := HB4.out.lt
    have b0 : w4.cell? ⟨g7, 0, none⟩ = some (.int .i64 (T : Int)) := HK4.out.cell 0
    have b1 : w4.cell? ⟨g7, 1, none⟩ = some (.slice A3 n3 c3) := HK4.out.cell 1
    have b2 : w4.cell? ⟨g7, 2, none⟩ = some (.slice D3 m3 d3) := HK4.out.cell 2
    have qg := HK4.out.lt
    have t0 : ((T : Int) != (T : Int)) = false := by simp
    have CH := check42 (T : Int) A3 D3 n3 c3 m3 d3 _ _ w4 (Nat.le_trans hc3 hc3') (Nat.le_trans hd3 hd3') HX4.out HP4.out HL3.out HM3.out (by omega)
    rw [HV.out] at CH
    have CH := Lib.hid CH
    go_wp2_with fail
    refine CH.out.mono ?_
    rintro e w5 ⟨rfl, hb5⟩
    have HX5 := Lib.hid (HX4.out.up hb5)
    have HP5 := Lib.hid (HP4.out.up hb5)
    have HB5 := Lib.hid (HB4.out.below hb5 HB4.out.lt)
    have HK5 := Lib.hid (HK4.out.below hb5 HK4.out.lt)
    have B5 := bvia B4 hb5
    clear a0 a1 q b0 b1 b2 qg HX4 HP4 HB4 HK4 B4 hb5 CH
    have a0 : w5.cell? ⟨w.heap.size, 0, none⟩ = some (.int .i64 p) := HB5.out.cell 0
    have q := HB5.out.lt
    have b0 : w5.cell? ⟨g7, 0, none⟩ = some (.int .i64 (T : Int)) := HK5.out.cell 0
    have qg := HK5.out.lt
    have hmk := mkI17 T (by omega)
    obtain ⟨wa, hwa⟩ : ∃ wa, wa = w5.alloc (.cells (madeCells #[.int .i64 0] T) 3) := ⟨_, rfl⟩
    have hba : Below w5.heap.size w5 wa := by rw [hwa]; go_grown
    have Ka : Has wa w5.heap.size 3 (fillL T 0) := by rw [hwa]; exact Has.new (by rw [made_rep, fillL_zero])
    go_upto_region 7 with (fail)
    rw [← hwa]
    obtain ⟨gv, hgv⟩ : ∃ g, g = w5.heap.size := ⟨_, rfl⟩
    rw [← hgv] at Ka ⊢
    have HGV := Lib.hid hgv
    have HKa := Lib.hid Ka
    have hgg : g7 < gv := by rw [hgv]; exact HK5.out.lt
    clear hmk hwa hgv Ka a0 q b0 qg t0
    go_wp2
    go_loopw [6] (fun i wr => ∃ j : Nat, j ≤ T ∧ i = .int .i64 (j : Int) ∧ Hid (Has wr gv 3 (fillL T j)) ∧ Below w5.heap.size w5 wr) (fun i _ => T - (intOf i).toNat)
    case atStart => exact ⟨0, Nat.zero_le _, rfl, HKa, hba⟩
    case round =>
      clear HKa hba
      obtain ⟨j, hj, rfl, HVV, hb⟩ := hrel
      obtain ⟨wo, rfl⟩ : ∃ wo : World, wo = wr := ⟨_, rfl⟩
      by_cases hlt : j < T
      · have jk : (j : Int) < (T : Int) := by omega
        have v0 : wo.cell? ⟨gv, j, none⟩ = some (vInt 0) := (HVV.out.cell j).trans (fillL_at hlt)
        have f0 := HVV.out.free j
        have qv := HVV.out.lt
        go_wp2
        go_roundw
        case rel =>
          have h := HVV.out.set j (.int .i64 (j : Int))
          rw [fillL_set hlt] at h
          exact ⟨j + 1, by omega, by go_num, Lib.hid h, hb.setCell (by rw [HGV.out]; exact Nat.le_refl _) _⟩
        case measure => first | (simp [intOf]; done) | (simp [intOf]; omega)
      · obtain rfl : T = j := by omega
        have HA0 : Hid (Has wo gv 3 (((Mk.works ws 0).l.take T).map vInt)) := by
          show Has _ _ _ (((lineL 48).take T).map vInt)
          rw [lineL_take T (by omega)]
          have := HVV.out; rwa [fillL_all] at this
        clear HVV
        go_wp2
        go_loopw [7] (fun i wr => ∃ k : Nat, k ≤ n ∧ i = .int .i64 (k : Int) ∧ Hid (Has wr gv 3 (((Mk.works ws k).l.take T).map vInt)) ∧ Below w5.heap.size w5 wr) (fun i _ => n - (intOf i).toNat)
        case atStart => exact ⟨0, Nat.zero_le _, rfl, HA0, hb⟩
        case round =>
          clear HA0 hb
          obtain ⟨k, hk, rfl, HA, hb⟩ := hrel
          obtain ⟨wo, rfl⟩ : ∃ wo : World, wo = wr := ⟨_, rfl⟩
          have HBo := Lib.hid (HB5.out.below hb HB5.out.lt)
          have a1 : wo.cell? ⟨w.heap.size, 1, none⟩ = some (.slice A n c) := HBo.out.cell 1
          have q := HBo.out.lt
          have Bo := bvia B5 hb
          by_cases hlt : k < n
          · obtain ⟨x, hx⟩ := get_of_lt (l := ws) (k := k) (by rw [HL.out]; exact hlt)
            obtain ⟨_, x0, x1, _⟩ := bad_at (HOK.out.good x (mem_of_get hx))
            have hform := HOK.out.form x (mem_of_get hx)
            have hshort := HOK.out.short x (mem_of_get hx)
            obtain ⟨a, ha⟩ : ∃ a, a = 2 * x.at_.toNat := ⟨_, rfl⟩
            have haT : a + 4 ≤ T := by have := HTP.out; omega
            have HSEG := Lib.hid (works_seg hx (by omega))
            rw [← ha] at HSEG
            have CV := Lib.hid (places29 x.word wo hshort hform)
            obtain ⟨P, hP⟩ : ∃ P, P = plF (crW x.word.data.toList x.word.size) := ⟨_, rfl⟩
            rw [show x.word.data.toList.length = x.word.size from Array.length_toList, ← hP] at HSEG
            rw [← hP] at CV
            have i1 : IntKind.i64.wrap (2 * x.at_) = (a : Int) := by rw [IntWalk.i64_in _ (by omega)]; omega
            obtain ⟨ba, o, rfl, hba, c0, c1, c2⟩ := (HW.out.up Bo) _ x hx
            have jn : (k : Int) < (n : Int) := by omega
            clear hP hform hshort hx x0 x1 ha
            go_wp2_with fail
            refine CV.out.mono ?_
            rintro e w6 ⟨A6, c6, rfl, o6, hb6⟩
            obtain ⟨gl, rl, rfl, hgl, HL6', _⟩ := own_has o6 (by omega)
            have HL6 := Lib.hid HL6'
            have HA6 := Lib.hid (HA.out.below hb6 HA.out.lt)
            have hvl : gv < gl := by have := HA.out.lt; omega
            have c1' : w6.cell? ⟨ba, o + k * 3 + 1, none⟩ = some (.int .i64 x.at_) := (hb6.cell (p := ⟨ba, _, none⟩) hba).trans c1
            have a1' : w6.cell? ⟨w.heap.size, 1, none⟩ = some (.slice (some ⟨ba, o, none⟩) n c) := (HBo.out.below hb6 q).cell 1
            have q' := (HBo.out.below hb6 q).lt
            have hba' := Nat.lt_of_lt_of_le hba hb6.size
            have B6 := hb.trans (hb6.mono hb.size)
            have hbase := HA6.out.lt
            obtain ⟨R0, hR0⟩ : ∃ R, R = (Mk.works ws k).l.take T := ⟨_, rfl⟩
            obtain ⟨R1, hR1⟩ : ∃ R, R = (Mk.works ws (k + 1)).l.take T := ⟨_, rfl⟩
            have HR1 := Lib.hid hR1
            have HS : Hid (∀ u, u < 4 → ∃ v : Nat, v < 4 ∧ P[u]? = some ((v : Int) + 1) ∧ R1[a + u]? = R0[a + v]?) := fun u hu => by
              obtain ⟨v, hv, h1, h2⟩ := HSEG.out.at_ u hu
              exact ⟨v, hv, h1, by rw [hR0, hR1, take_get (by omega), take_get (by omega)]; exact h2⟩
            have HS2 : Hid (∀ i, (i < a ∨ a + 4 ≤ i) → R1[i]? = R0[i]?) := fun i hi => by
              rw [hR0, hR1, List.getElem?_take, List.getElem?_take]
              split
              · exact HSEG.out.out i hi
              · rfl
            have HT0 : Hid (R0.length = T) := by show _ = _; rw [hR0, List.length_take, Mk.works_len]; omega
            have HT1 : Hid (R1.length = T) := by show _ = _; rw [hR1, List.length_take, Mk.works_len]; omega
            rw [← hR0] at HA6
            clear o6 hb6 c0 c1 c2 a1 q HBo CV Bo hba HL6' hR0 hR1 HSEG HA
            have i2 : IntKind.i64.wrap ((a : Int) + 4) = ((a + 4 : Nat) : Int) := by rw [IntWalk.i64_in _ (by omega)]; omega
            have k1 : decide ((a : Int) < 0) = false := decide_eq_false (by omega)
            have k2 : decide ((T : Int) < ((a + 4 : Nat) : Int)) = false := decide_eq_false (by omega)
            have k3 : ((4 : Int) != 4) = false := by simp
            have k4 : a ≤ a + 4 := by omega
            have k5 : (0 : Int) ≤ (a : Int) := by omega
            have k6 : (a : Int) ≤ ((a + 4 : Nat) : Int) := by omega
            have k7 : ((a + 4 : Nat) : Int) ≤ (T : Int) := by omega
            go_upto_region 18 with (fail)
            have HD : Hid (RdI w6 w6.heap.size (some ⟨gv, a, none⟩) ((R0.drop a).take 4)) := rdI_from HA6.out
            have HLD : Hid (((R0.drop a).take 4).length = 4) := by
              show _ = _
              rw [List.length_take, List.length_drop, HT0.out]; omega
            go_wp2_with (at_builtin; go_loud (refine wpList_appI rfl (.tmp 107) (.tmp 112) rfl w6.heap.size (.slice (some ⟨w6.heap.size, 0, none⟩) 0 0) 0 [] rfl (own_lit0 (Nat.le_refl _)) (some ⟨gv, a, none⟩) 4 (T - a) _ (by simp [Act.eval]) (HD.out.up (by go_grown)) HLD.out (by omega) (by simp) ?_; intro A7 c7 w7 hown7 hgrow7))
            have hB7 : Below w6.heap.size w6 w7 := ((Below.refl _ w6).alloc (Nat.le_refl _) (.cells #[] 3)).grown hgrow7 (by simp) (fun kk hk => by simp [Value.ownBlock] at hk; omega)
            obtain ⟨gw, rw_, rfl, hgw, HW7', _⟩ := own_has hown7 (by omega)
            have HW7 := Lib.hid HW7'
            have HL7 := Lib.hid (HL6.out.below hB7 HL6.out.lt)
            have HA7 := Lib.hid (HA6.out.below hB7 HA6.out.lt)
            have B7 := bvia B6 hB7
            have hlw : gl ≠ gv := by omega
            have hww : gw ≠ gv := by omega
            clear hown7 hgrow7 hB7 HW7' HL6 HA6 HD c1' a1' q' hba' B6
            go_loopw [12] (fun i wr => ∃ u : Nat, u ≤ 4 ∧ i = .int .i64 (u : Int) ∧ Hid (Has wr gv 3 ((mixL R1 R0 (a + u)).map vInt)) ∧ But gv w7 wr) (fun i _ => 4 - (intOf i).toNat)
            case atStart =>
              refine ⟨0, Nat.zero_le _, rfl, ?_, But.refl _ _⟩
              rw [mix_start HT1.out HT0.out (fun i hi => HS2.out i (Or.inl (by omega)))]
              exact HA7
            case round =>
              obtain ⟨u, hu, rfl, HMX, hbt⟩ := hrel
              obtain ⟨wi, rfl⟩ : ∃ wi : World, wi = wr := ⟨_, rfl⟩
              by_cases h4 : u < 4
              · have u4 : (u : Int) < 4 := by omega
                obtain ⟨v, hv4, hPv, hRv⟩ := HS.out u h4
                obtain ⟨y, hy⟩ := get_of_lt (l := R1) (k := a + u) (by rw [HT1.out]; omega)
                obtain ⟨y0, hy0⟩ := get_of_lt (l := mixL R1 R0 (a + u)) (k := a + u) (by rw [mix_len HT1.out HT0.out]; omega)
                obtain ⟨q9, hq9⟩ : ∃ q, q = a + u := ⟨_, rfl⟩
                obtain ⟨pv, hpv⟩ : ∃ z : Int, z = (v : Int) + 1 := ⟨_, rfl⟩
                have d1 : wi.cell? ⟨gl, u, none⟩ = some (.int .i64 pv) := by
                  rw [(hbt.has HL7.out hlw).cell u, List.getElem?_append_left (by rw [List.length_map]; exact lt_of_get hPv), List.getElem?_map, hPv, hpv]; rfl
                have d2 : wi.cell? ⟨gw, v, none⟩ = some (.int .i64 y) := by
                  have hDv : ((R0.drop a).take 4)[v]? = some y := by rw [List.getElem?_take, if_pos hv4, List.getElem?_drop, ← hRv]; exact hy
                  rw [(hbt.has HW7.out hww).cell v, List.nil_append, List.getElem?_append_left (by rw [List.length_map]; exact lt_of_get hDv), List.getElem?_map, hDv]; rfl
                have d3 : wi.cell? ⟨gv, q9, none⟩ = some (.int .i64 y0) := by
                  rw [HMX.out.cell q9, List.getElem?_map, hq9, hy0]; rfl
                have f3 := HMX.out.free q9
                have qv := HMX.out.lt
                have ql := (hbt.has HL7.out hlw).lt
                have qw := (hbt.has HW7.out hww).lt
                have i8 : IntKind.i64.wrap (pv - 1) = (v : Int) := by rw [IntWalk.i64_in _ (by omega)]; omega
                have i9 : IntKind.i64.wrap ((a : Int) + (u : Int)) = (q9 : Int) := by rw [IntWalk.i64_in _ (by omega)]; omega
                have v4 : (v : Int) < 4 := by omega
                have v0 : (0 : Int) ≤ (v : Int) := by omega
                have w0 : (0 : Int) ≤ (q9 : Int) := by omega
                have w1 : (q9 : Int) < (T : Int) := by omega
                have HNX : Hid (Has (wi.setCell ⟨gv, q9, none⟩ (.int .i64 y)) gv 3 ((mixL R1 R0 (a + (u + 1))).map vInt)) := by
                  have h := HMX.out.set q9 (.int .i64 y)
                  rw [hq9, show ((mixL R1 R0 (a + u)).map vInt).set (a + u) (.int .i64 y) = ((mixL R1 R0 (a + u)).set (a + u) y).map vInt by rw [List.map_set], mix_set HT1.out HT0.out hy] at h
                  rw [hq9]; exact h
                have HQ9 := Lib.hid hq9
                have HU4 := Lib.hid h4
                clear hPv hRv hy hy0 hpv hq9 HMX h4
                go_wp2
                go_roundw
                case rel => exact ⟨u + 1, (by have := HU4.out; omega), by go_num, HNX, hbt.trans (But.set _ _ _ _)⟩
                case measure => (have := HU4.out; first | (simp [intOf]; done) | (simp [intOf]; omega))
              · obtain rfl : 4 = u := by omega
                rw [mix_end HT1.out HT0.out (fun i hi => HS2.out i (Or.inr hi)), HR1.out] at HMX
                have hbz : Below w5.heap.size w5 wi := B7.trans (hbt.below (by rw [HGV.out]; exact Nat.le_refl _) B7.size)
                clear HS HS2 HT0 HT1 HW7 HL7 HA7 HLD hbt
                go_wp2
                go_roundw
                case rel => exact ⟨k + 1, hlt, by go_num, HMX, hbz⟩
                case measure => first | (simp [intOf]; done) | (simp [intOf]; omega)
          · obtain rfl : n = k := by omega
            have HKo := Lib.hid (HK5.out.below hb HK5.out.lt)
            have HXo := HX5.out.up hb
            have HPo := HP5.out.up hb
            have CE := ends18 (T : Int) A3 D3 n3 c3 m3 d3 _ _ wo (Nat.le_trans hc3 hc3') (Nat.le_trans hd3 hd3') HXo HPo HL3.out HM3.out (by omega)
            have CL := fun (W : World) (hb' : Below wo.heap.size wo W) => linked30a (T : Int) A3 D3 n3 c3 m3 d3 _ _ W (Nat.le_trans hc3 hc3') (Nat.le_trans hd3 hd3') (HXo.up hb') (HPo.up hb') HL3.out HM3.out (by omega)
            have HR1 : linkR (T : Int) (Mk.works ws n).xs (Mk.works ws n).ps = setsR (Mk.works ws n).xs T := by unfold linkR; rw [if_pos HV.out]; simp
            rw [HV.out, HEN.out] at CE
            rw [HR1, HV.out] at CL
            obtain ⟨R, hR⟩ : ∃ R, R = setsR (Mk.works ws n).xs T := ⟨_, rfl⟩
            obtain ⟨L, hL⟩ : ∃ L, L = (Mk.works ws n).l.take T := ⟨_, rfl⟩
            rw [← hR] at CL
            rw [← hL] at CE HA
            have F1 : Hid (∀ (i k : Nat) (r : List Int) (x : Int), R[i]? = some r → r[k]? = some x → x = (((R.take i).flatten.length + k : Nat) : Int)) := by
              intro i k r x h1 h2; rw [hR] at h1 ⊢; exact set_at HV.out h1 h2
            have F2 : Hid ((R.take R.length).flatten.length = T) := by show _ = _; rw [hR]; exact set_all HV.out
            have F3 : Hid (∀ (i : Nat) (r : List Int), R[i]? = some r → (R.take i).flatten.length + r.length ≤ T) := by
              intro i r h1; rw [hR] at h1 ⊢; exact set_lim HV.out h1
            have F4 : Hid (∀ (i q : Nat) (r : List Int), R[i]? = some r → (R.take i).flatten.length ≤ q → q < (R.take i).flatten.length + r.length → ∃ u : Nat, L[q]? = some (u : Int) ∧ r.contains (u : Int) = true) := by
              intro i q r h1 h2 h3
              have h4 := F3.out i r h1
              rw [hR] at h1 h2 h3
              obtain ⟨u, _, h5, h6⟩ := set_end HV.out h1 h2 h3
              refine ⟨u, ?_, h6⟩
              rw [hL, take_get (by rw [← hR] at h3; omega)]; rw [← HLN.out]; exact h5
            have HRL : Hid (R.length ≤ T) := by
              show _ ≤ _; rw [hR]; unfold setsR
              exact Nat.le_trans (List.length_filter_le _ _) (by simp)
            have HLT : Hid (L.length = T) := by show _ = _; rw [hL, List.length_take, Mk.works_len]; omega
            have CE := Lib.hid CE
            have CL := Lib.hid CL
            have Bo' := bvia B5 hb
            clear hR hL HR1 HXo HPo HX5 HP5 HL3 HM3 HB5 HK5 HBo Bo hb HV HEN HLN HOK HL HW HTP
            have b0 : wo.cell? ⟨g7, 0, none⟩ = some (.int .i64 (T : Int)) := HKo.out.cell 0
            have b1 : wo.cell? ⟨g7, 1, none⟩ = some (.slice A3 n3 c3) := HKo.out.cell 1
            have b2 : wo.cell? ⟨g7, 2, none⟩ = some (.slice D3 m3 d3) := HKo.out.cell 2
            have qg := HKo.out.lt
            go_wp2_with fail
            refine CE.out.mono ?_
            rintro e w6 ⟨A6, n6, c6, rfl, r6, l6, hn6, hc6, hb6⟩
            have HR6 := Lib.hid r6
            have HL6 := Lib.hid l6
            have HK6 := Lib.hid (HKo.out.below hb6 HKo.out.lt)
            have HA6 := Lib.hid (HA.out.below hb6 HA.out.lt)
            have B6 := bvia Bo' hb6
            have CL6 := Lib.hid (CL.out w6 hb6)
            clear a1 q b0 b1 b2 qg r6 l6 hb6 CL CE HKo HA Bo'
            have b0 : w6.cell? ⟨g7, 0, none⟩ = some (.int .i64 (T : Int)) := HK6.out.cell 0
            have b1 : w6.cell? ⟨g7, 1, none⟩ = some (.slice A3 n3 c3) := HK6.out.cell 1
            have b2 : w6.cell? ⟨g7, 2, none⟩ = some (.slice D3 m3 d3) := HK6.out.cell 2
            have qg := HK6.out.lt
            go_wp2_with fail
            refine CL6.out.mono ?_
            rintro e w7 ⟨A7, n7, c7, rfl, r7, l7, hb7⟩
            have HR7 := Lib.hid r7
            have HL7 := Lib.hid l7
            have HRA := HR6.out.up hb7
            have HKK := Lib.hid (HK6.out.below hb7 HK6.out.lt)
            have HAA := Lib.hid (HA6.out.below hb7 HA6.out.lt)
            have B7 := bvia B6 hb7
            obtain rfl : T = n6 := HLT.out.symm.trans HL6.out
            have J := fun (W : World) (hb' : Below w7.heap.size w7 W) => sameInts04 A6 (some ⟨gv, 0, none⟩) T T c6 T L L W (by omega) (by omega) (HRA.up hb') ((rdI_hasC HAA.out).up hb') HLT.out HLT.out
            simp only [beq_self_eq_true] at J
            have J := Lib.hid J
            clear b0 b1 b2 qg r7 l7 hb7 CL6 HK6 HA6 HR6 HL6 HRA B6
            go_wp2_with fail
            refine (J.out _ (Below.refl _ _)).mono ?_
            rintro e w8 ⟨rfl, hb8⟩
            have B8 := bvia B7 hb8
            have HR8 := Lib.hid (HR7.out.up hb8)
            have HK8 := Lib.hid (HKK.out.below hb8 HKK.out.lt)
            have HA8 := Lib.hid (HAA.out.below hb8 HAA.out.lt)
            clear J hb8 HR7 HKK HAA B7
            obtain ⟨st, hst⟩ : ∃ st : Nat → Nat, st = fun j => (R.take j).flatten.length := ⟨_, rfl⟩
            have G0 : Hid (st 0 = 0) := by show _ = _; rw [hst]; rfl
            have G1 : Hid (∀ (i k : Nat) (r : List Int) (x : Int), R[i]? = some r → r[k]? = some x → x = ((st i + k : Nat) : Int)) := by rw [hst]; exact F1.out
            have G2 : Hid (st n7 = T) := by show _ = _; rw [hst, ← HL7.out]; exact F2.out
            have G3 : Hid (∀ (i : Nat) (r : List Int), R[i]? = some r → st i + r.length ≤ T) := by rw [hst]; exact F3.out
            have G4 : Hid (∀ (i q : Nat) (r : List Int), R[i]? = some r → st i ≤ q → q < st i + r.length → ∃ u : Nat, L[q]? = some (u : Int) ∧ r.contains (u : Int) = true) := by rw [hst]; exact F4.out
            have G5 : Hid (∀ (i : Nat) (r : List Int), R[i]? = some r → st (i + 1) = st i + r.length) := by rw [hst]; exact fun i r h => flat_next h
            have hn7 : n7 ≤ 48 := by rw [← HL7.out]; exact Nat.le_trans HRL.out hT4.2
            clear hst F1 F2 F3 F4 HRL
            go_wp2
            go_loopw [16, 17] (fun nv iv wr => ∃ j : Nat, j ≤ n7 ∧ iv = .int .i64 (j : Int) ∧ nv = .int .i64 ((st j : Nat) : Int) ∧ Below w8.heap.size w8 wr) (fun _ iv _ => n7 - (intOf iv).toNat)
            case atStart => exact ⟨0, Nat.zero_le _, rfl, by rw [G0.out]; rfl, Below.refl _ _⟩
            case round =>
              obtain ⟨j, hj, rfl, rfl, hb⟩ := hrel
              obtain ⟨wj, rfl⟩ : ∃ wi : World, wi = wr := ⟨_, rfl⟩
              obtain ⟨s, hs⟩ : ∃ s, s = st j := ⟨_, rfl⟩
              rw [← hs]
              have HSJ := Lib.hid hs; clear hs
              by_cases hlt : j < n7
              · obtain ⟨r, hr⟩ := get_of_lt (l := R) (k := j) (by rw [HL7.out]; exact hlt)
                obtain ⟨bu, ou, rfl, hbu, X, nx, cx, u0, u1, u2, u3, u4⟩ := (HR8.out.up hb) j r hr
                have jn : (j : Int) < (n7 : Int) := by omega
                have g3 := G3.out j r hr
                rw [u2, ← HSJ.out] at g3
                have HU1 := Lib.hid u1
                have HU2 := Lib.hid u2
                have HRR := Lib.hid hr
                have g1 : Hid (∀ (k : Nat) (x : Int), r[k]? = some x → x = ((s + k : Nat) : Int)) := by rw [HSJ.out]; exact fun k x h => G1.out j k r x hr h
                have g4 : Hid (∀ q : Nat, s ≤ q → q < s + nx → ∃ u : Nat, L[q]? = some (u : Int) ∧ r.contains (u : Int) = true) := by rw [HSJ.out, ← u2]; exact fun q h1 h2 => G4.out j q r hr h1 h2
                have g5 : Hid (st (j + 1) = s + nx) := by show _ = _; rw [HSJ.out, ← u2]; exact G5.out j r hr
                have HBJ := Lib.hid hb
                clear hr u1 u2 u3 u4 hb
                go_wp2
                go_loopw [16, 18] (fun nv kv wr => ∃ k q : Nat, k ≤ nx ∧ q = s + k ∧ kv = .int .i64 (k : Int) ∧ nv = .int .i64 (q : Int) ∧ Below wj.heap.size wj wr) (fun _ kv _ => nx - (intOf kv).toNat)
                case atStart => exact ⟨0, s, Nat.zero_le _, rfl, rfl, rfl, Below.refl _ _⟩
                case round =>
                  obtain ⟨k, q, hk, hq, rfl, rfl, hbk⟩ := hrel
                  obtain ⟨wk, rfl⟩ : ∃ wi : World, wi = wr := ⟨_, rfl⟩
                  have HQ := Lib.hid hq
                  have hqT : q ≤ T + nx := by omega
                  clear hq
                  have c0 : wk.cell? ⟨bu, ou + j, none⟩ = some (.slice X nx cx) := (hbk.cell (p := ⟨bu, _, none⟩) hbu).trans u0
                  have hbu' := Nat.lt_of_lt_of_le hbu hbk.size
                  by_cases hkn : k < nx
                  · obtain ⟨x, hx⟩ := get_of_lt (l := r) (k := k) (by rw [HU2.out]; exact hkn)
                    have hxv := g1.out k x hx
                    obtain ⟨bx, ox, rfl, hbx, c1⟩ := (HU1.out.up hbk) k x hx
                    rw [hxv, ← HQ.out] at c1
                    have kn : (k : Int) < (nx : Int) := by omega
                    have ne : ((q : Int) != (q : Int)) = false := by simp
                    have i8 : IntKind.i64.wrap ((q : Int) + 1) = ((q + 1 : Nat) : Int) := by rw [IntWalk.i64_in _ (by omega)]; omega
                    have HKN := Lib.hid hkn
                    clear hx hxv hkn
                    go_wp2
                    go_roundw
                    case rel => exact ⟨k + 1, q + 1, HKN.out, by rw [HQ.out]; omega, by go_num, rfl, hbk⟩
                    case measure => (have := HKN.out; first | (simp [intOf]; done) | (simp [intOf]; omega))
                  · obtain rfl : nx = k := by omega
                    have i8 : IntKind.i64.wrap ((q : Int) - (nx : Int)) = (s : Int) := by rw [IntWalk.i64_in _ (by have := HQ.out; omega)]; have := HQ.out; omega
                    go_wp2
                    go_loopw [19] (fun pv wr => ∃ p : Nat, s ≤ p ∧ p ≤ q ∧ pv = .int .i64 (p : Int) ∧ Below wk.heap.size wk wr) (fun pv _ => q - (intOf pv).toNat)
                    case atStart => exact ⟨s, Nat.le_refl _, by rw [HQ.out]; omega, rfl, Below.refl _ _⟩
                    case round =>
                      obtain ⟨p, hp1, hp2, rfl, hbp⟩ := hrel
                      obtain ⟨wp, rfl⟩ : ∃ wi : World, wi = wr := ⟨_, rfl⟩
                      have Bkp := hbk.trans (hbp.mono hbk.size)
                      by_cases hpq : p < q
                      · obtain ⟨u, hLp, hcu⟩ := g4.out p hp1 (by rw [← HQ.out]; exact hpq)
                        have pq : (p : Int) < (q : Int) := by omega
                        have pT := lt_of_get hLp
                        rw [HLT.out] at pT
                        have pT' : (p : Int) < (T : Int) := by omega
                        have Bjp : Below w8.heap.size w8 wp := HBJ.out.trans (Bkp.mono HBJ.out.size)
                        have hHL := Lib.hid hLp
                        have HCU := Lib.hid hcu
                        have HPQ := Lib.hid hpq
                        have HP1 := Lib.hid hp1
                        have c0p : wp.cell? ⟨bu, ou + j, none⟩ = some (.slice X nx cx) := (hbp.cell (p := ⟨bu, _, none⟩) hbu').trans c0
                        have hbup := Nat.lt_of_lt_of_le hbu' hbp.size
                        clear hLp hcu hpq hp1 hp2 c0 hbu' u0 hbu
                        go_wp2
                        go_loopw [20, 21] (fun sv kv wr => ∃ k : Nat, k ≤ nx ∧ kv = .int .i64 (k : Int) ∧ sv = .bool ((r.take k).contains (u : Int)) ∧ Below wp.heap.size wp wr) (fun _ kv _ => nx - (intOf kv).toNat)
                        case atStart => exact ⟨0, Nat.zero_le _, rfl, by simp, Below.refl _ _⟩
                        case round =>
                          obtain ⟨k, hk2, rfl, rfl, hbz⟩ := hrel
                          obtain ⟨wz, rfl⟩ : ∃ wi : World, wi = wr := ⟨_, rfl⟩
                          have c0 : wz.cell? ⟨bu, ou + j, none⟩ = some (.slice X nx cx) := (hbz.cell (p := ⟨bu, _, none⟩) hbup).trans c0p
                          have hbu' := Nat.lt_of_lt_of_le hbup hbz.size
                          by_cases hkn : k < nx
                          · obtain ⟨x, hx⟩ := get_of_lt (l := r) (k := k) (by rw [HU2.out]; exact hkn)
                            have hsc : (r.take (k + 1)).contains (u : Int) = ((r.take k).contains (u : Int) || ((u : Int) == x)) := by
                              rw [List.take_add_one, hx, Bool.eq_iff_iff]; simp
                            obtain ⟨bx, ox, rfl, hbx, c1⟩ := (HU1.out.up (Bkp.trans (hbz.mono Bkp.size))) k x hx
                            have HAz := HA8.out.below (Bjp.trans (hbz.mono Bjp.size)) HA8.out.lt
                            have d1 : wz.cell? ⟨gv, p, none⟩ = some (.int .i64 (u : Int)) := by
                              rw [HAz.cell p, List.getElem?_map, hHL.out]; rfl
                            have d2 := HAz.lt
                            have kn : (k : Int) < (nx : Int) := by omega
                            have HKN := Lib.hid hkn
                            obtain ⟨bb, hbb⟩ : ∃ bb, bb = (r.take k).contains (u : Int) := ⟨_, rfl⟩
                            rw [← hbb] at hsc ⊢
                            have HSC := Lib.hid hsc
                            clear hx hkn hsc hbb HAz
                            cases bb
                            · have hvv : ((u : Int) == x) = ((u : Int) == x) := rfl
                              go_upto_region 44 with (fail)
                              go_quiet (fail)
                              go_wp2
                              go_roundw
                              case rel => exact ⟨k + 1, HKN.out, by go_num, by rw [HSC.out]; rfl, below_drewN hbz _⟩
                              case measure => (have := HKN.out; first | (simp [intOf]; done) | (simp [intOf]; omega))
                            · go_upto_region 44 with (fail)
                              go_quiet (fail)
                              go_wp2
                              go_roundw
                              case rel => exact ⟨k + 1, HKN.out, by go_num, by rw [HSC.out]; rfl, below_drewN hbz _⟩
                              case measure => (have := HKN.out; first | (simp [intOf]; done) | (simp [intOf]; omega))
                          · obtain rfl : nx = k := by omega
                            have hcc : (r.take nx).contains (u : Int) = true := by rw [← HU2.out, List.take_length]; exact HCU.out
                            rw [hcc]
                            clear hcc
                            go_wp2
                            go_roundw
                            case rel => exact ⟨p + 1, (by have := HP1.out; omega), HPQ.out, by go_num, hbp.trans (hbz.mono hbp.size)⟩
                            case measure => (have := HPQ.out; first | (simp [intOf]; done) | (simp [intOf]; omega))
                      · obtain rfl : q = p := by omega
                        have hjj : j < n7 := by omega
                        have Bjp : Below w8.heap.size w8 wp := HBJ.out.trans (Bkp.mono HBJ.out.size)
                        go_wp2
                        go_roundw
                        case rel => exact ⟨j + 1, hjj, by go_num, by rw [g5.out, HQ.out], Bjp⟩
                        case measure => first | (simp [intOf]; done) | (simp [intOf]; omega)
              · obtain rfl : n7 = j := by omega
                have hsT : s = T := by rw [HSJ.out]; exact G2.out
                rw [hsT]
                have HKJ := HK8.out.below hb HK8.out.lt
                have b0 : wj.cell? ⟨g7, 0, none⟩ = some (.int .i64 (T : Int)) := HKJ.cell 0
                have qg := HKJ.lt
                have BZ := bvia B8 hb
                have ee : ((T : Int) == (T : Int)) = true := by simp
                clear hsT
                go_wp2_with fail
                refine (shown10 _).mono ?_
                rintro e w9 ⟨rfl, hb9⟩
                go_wp2
                go_ret
                exact ⟨rfl, bvia BZ hb9⟩
end Go.Proofs.Ytpljaoagiaijiaa
/-
  Arguments of the statements read as words: a sheet, a work.
-/
namespace Go.Proofs.Ytpljaoagiaijiaa
open Go.RowKit Go.ChangeShapes Go.WideShapes Go.ChangeAt Go.Joins Go.Deep
theorem maxLen_le : maxLen ≤ 9223372036854775807 := by simp [maxLen]
instance : Inhabited Wk := ⟨⟨0, 0, ⟨#[]⟩⟩⟩
theorem cellsWk : Try.prog.cellsOf 52 = 3 := by kernel_rfl
theorem cellsSheet : Try.prog.cellsOf 24 = 2 := by kernel_rfl
theorem cellsI : Try.prog.cellsOf 3 = 1 := by kernel_rfl
theorem cellsS : Try.prog.cellsOf 9 = 1 := by kernel_rfl
section
variable {H : Type} {enc : TypeId × Value → H} {w : World} {held : Bool}
set_option maxRecDepth 100000 in
/-- the three cells of a work -/
theorem cells_wk {n : Nat} {cs : List Value} {x : DataW H × List MemPlace} {sp : Nat → Bool} {base : Nat} (h : DataW.trod enc Try.prog w base sp held n 52 cs = some x) :
    ∃ y : Wk, cs = [.int .i64 y.kind, .int .i64 y.at_, .string y.word] ∧ y.word.size ≤ 9223372036854775807 := by
  obtain ⟨y0, y1, y2, m, _, hl, h0, h1, h2⟩ := trod_struct3 Try.underlying52 h
  rw [cellsWk] at hl
  match cs, hl with
  | [v0, v1, v2], _ =>
    simp [cellsI, cellsS] at h0 h1 h2
    obtain ⟨k, e0, _, _⟩ := DataW.trod_int Try.underlying3 h0
    obtain ⟨a, e1, _, _⟩ := DataW.trod_int Try.underlying3 h1
    obtain ⟨s, e2, _, hs⟩ := DataW.trod_string Try.underlying9 h2
    simp at e0 e1 e2
    subst e0 e1 e2
    exact ⟨⟨k, a, s⟩, rfl, Nat.le_trans hs maxLen_le⟩
set_option maxRecDepth 100000 in
/-- a cell that reads as a slice of works -/
theorem cell_wks {n : Nat} {v : Value} {x : DataW H × List MemPlace} (h : DataW.trod enc Try.prog w 0 (fun _ => true) held n 22 [v] = some x) :
    ∃ (A : Option Addr) (n c : Nat) (ws : List Wk), v = .slice A n c ∧ n ≤ c ∧ c ≤ 9223372036854775807 ∧ RdW w w.heap.size A ws ∧ ws.length = n ∧ (∀ y ∈ ws, y.word.size ≤ 9223372036854775807) := by
  rcases open_slice Try.underlying22 h with ⟨hv, _⟩ | ⟨a, len, cap, m, q, D, Pl, hv, _, hl, hc, hm, hx, hcs⟩
  · simp at hv
    exact ⟨none, 0, 0, [], hv, Nat.le_refl _, by omega, RdW.nil _ _ _, rfl, by simp⟩
  · simp only [if_true] at hm
    subst hm
    simp at hv
    have each : ∀ i, i < len → ∃ y : Wk, y.word.size ≤ 9223372036854775807 ∧ w.cell? (a.add (i * 3)) = some (.int .i64 y.kind) ∧ w.cell? (a.add (i * 3 + 1)) = some (.int .i64 y.at_) ∧ w.cell? (a.add (i * 3 + 2)) = some (.string y.word) := by
      intro i hi
      obtain ⟨cs', h1, h2⟩ := hcs i (by omega)
      rw [cellsWk] at h1
      obtain ⟨_, hlen, hcell⟩ := World.cells?_some h1
      obtain ⟨y, rfl, hy⟩ := cells_wk h2
      have e0 := hcell 0 (by omega)
      have e1 := hcell 1 (by omega)
      have e2 := hcell 2 (by omega)
      rw [add_add] at e0 e1 e2
      exact ⟨y, hy, by simpa using e0, by simpa using e1, by simpa using e2⟩
    obtain ⟨X, hX⟩ := choose_lt each
    refine ⟨some a, len, m, (List.range len).map X, hv, hl, Nat.le_trans hc maxLen_le, ?_, by simp, ?_⟩
    · intro k x hx
      have hk : k < len := by have := lt_of_get hx; simpa using this
      have : X k = x := by simpa [hk] using hx
      subst this
      obtain ⟨_, c0, c1, c2⟩ := hX k hk
      obtain ⟨b, o, spot⟩ := a
      have z0 := (hX 0 (by omega)).2.1
      rw [Nat.zero_mul] at z0
      have hs : spot = none := by simpa [Addr.add] using World.cell?_spot z0
      subst hs
      simp only [Addr.add_lit] at c0 c1 c2
      refine ⟨b, o, rfl, ?_, c0, by rw [Nat.add_assoc]; exact c1, by rw [Nat.add_assoc]; exact c2⟩
      refine Nat.lt_of_not_le fun hge => ?_
      have : w.cell? ⟨b, o + k * 3, none⟩ = none := by
        simp [World.cell?, Array.getElem?_eq_none hge]
      rw [this] at c0; cases c0
    · intro y hy
      simp at hy
      obtain ⟨k, hk, rfl⟩ := hy
      exact (hX k hk).1
set_option maxRecDepth 100000 in
/-- an argument that is a sheet -/
theorem openSheet {r : Reach} {b0 : Nat} {v : Value} {d : DataW H} {ps : List MemPlace} (hv : Value.okWide Try.prog w r b0 24 v) (h : DataW.Trod enc Try.prog w 0 (fun _ => true) held 24 v d ps) :
    ∃ (p : Int) (A : Option Addr) (n c : Nat) (ws : List Wk), v = .agg #[.int .i64 p, .slice A n c] ∧ n ≤ c ∧ c ≤ 9223372036854775807 ∧ RdW w w.heap.size A ws ∧ ws.length = n ∧ (∀ y ∈ ws, y.word.size ≤ 9223372036854775807) := by
  obtain ⟨c0, c1, y0, y1, m, rfl, rfl, rfl, h0, h1⟩ := open_agg2 Try.underlying24 (by kernel_rfl) cellsSheet hv h
  obtain ⟨p, e0, _, _⟩ := DataW.trod_int Try.underlying3 h0
  simp at e0
  subst e0
  obtain ⟨A, n, c, ws, rfl, h2, h3, h4, h5, h6⟩ := cell_wks h1
  exact ⟨p, A, n, c, ws, rfl, h2, h3, h4, h5, h6⟩
set_option maxRecDepth 100000 in
/-- an argument that is a work -/
theorem openWork {r : Reach} {b0 : Nat} {v : Value} {d : DataW H} {ps : List MemPlace} {sp : Nat → Bool} (hv : Value.okWide Try.prog w r b0 52 v) (h : DataW.Trod enc Try.prog w 0 sp held 52 v d ps) :
    ∃ (k a : Int) (s : ByteArray), v = .agg #[.int .i64 k, .int .i64 a, .string s] ∧ s.size ≤ 9223372036854775807 := by
  obtain ⟨c0, c1, c2, y0, y1, y2, m, rfl, rfl, rfl, h0, h1, h2⟩ := open_agg3 Try.underlying52 (by kernel_rfl) cellsWk hv h
  obtain ⟨k, e0, _, _⟩ := DataW.trod_int Try.underlying3 h0
  obtain ⟨a, e1, _, _⟩ := DataW.trod_int Try.underlying3 h1
  obtain ⟨s, e2, _, hs⟩ := DataW.trod_string Try.underlying9 h2
  simp at e0 e1 e2
  subst e0 e1 e2
  exact ⟨k, a, s, rfl, Nat.le_trans hs maxLen_le⟩
end
end Go.Proofs.Ytpljaoagiaijiaa
