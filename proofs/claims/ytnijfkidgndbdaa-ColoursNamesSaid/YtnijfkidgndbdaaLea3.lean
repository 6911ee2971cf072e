/-
  Contract of chapter 21: colours.Least.
-/
import Derived.Test.YtnijfkidgndbdaaLea2
namespace Go.Proofs.Ytnijfkidgndbdaa
open Go.RowKit
/-- the colours with which the threads are seen first, before crossing j -/
def lL (xs : List Q4) (S : List Int) (Tn j : Nat) : List Int := (List.range Tn).map fun (T : Nat) => leadTo xs S (T : Int) j (-1)
theorem lL_len (xs : List Q4) (S : List Int) (Tn j : Nat) : (lL xs S Tn j).length = Tn := by simp [lL]
theorem lL_zero (xs : List Q4) (S : List Int) (Tn : Nat) : lL xs S Tn 0 = List.replicate Tn (-1) := by
  apply List.ext_getElem?
  intro i
  unfold lL
  rw [List.getElem?_replicate, List.getElem?_map]
  by_cases h : i < Tn
  · simp [h]
    exact leadTo_nil rfl
  · simp [h]
theorem lL_get {xs : List Q4} {S : List Int} {Tn j T : Nat} (h : T < Tn) : (lL xs S Tn j)[T]? = some (leadTo xs S (T : Int) j (-1)) := by simp [lL, h]
theorem lL_set {xs : List Q4} {S : List Int} {Tn j i : Nat} {x : Q4} {s : Int} (hx : xs[j]? = some x) (hi : x.c = (i : Int)) (hs : leadTo xs S x.c (j + 1) (-1) = s) : (lL xs S Tn j).set i s = lL xs S Tn (j + 1) := by
  apply List.ext_getElem?
  intro k
  rw [List.getElem?_set]
  by_cases hk : k < Tn
  · rw [lL_get hk, lL_get hk, lL_len]
    by_cases h : i = k
    · subst h
      rw [if_pos rfl, if_pos hk, ← hs, hi]
    · rw [if_neg h, leadTo_other hx (by rw [hi]; omega)]
  · rw [lL_len]
    have e1 : (lL xs S Tn j)[k]? = none := by rw [List.getElem?_eq_none]; rw [lL_len]; omega
    have e2 : (lL xs S Tn (j + 1))[k]? = none := by rw [List.getElem?_eq_none]; rw [lL_len]; omega
    rw [e1, e2]
    by_cases h : i = k
    · subst h; rw [if_pos rfl, if_neg hk]
    · rw [if_neg h]
/-- .. the first i of them no longer below none -/
def fL (xs : List Q4) (S : List Int) (Tn i : Nat) : List Int := (List.range Tn).map fun (T : Nat) => if T < i then leadTo xs S (T : Int) xs.length 0 else leadTo xs S (T : Int) xs.length (-1)
theorem fL_len (xs : List Q4) (S : List Int) (Tn j : Nat) : (fL xs S Tn j).length = Tn := by simp [fL]
theorem fL_zero (xs : List Q4) (S : List Int) (Tn : Nat) : fL xs S Tn 0 = lL xs S Tn xs.length := by simp [fL, lL]
theorem fL_all (xs : List Q4) (S : List Int) (Tn : Nat) : fL xs S Tn Tn = leastL (Tn : Int) xs S := by
  unfold fL leastL
  rw [show ((Tn : Nat) : Int).toNat = Tn by simp]
  apply List.map_congr_left
  intro i hi
  simp at hi
  simp [hi]
theorem col_get {S : List Int} (h : colOk S = true) (i : Nat) (hi : i < S.length) : 0 ≤ S.getD i 0 ∧ S.getD i 0 < 16 := by
  obtain ⟨x, hx⟩ := get_of_lt hi
  rw [List.getD_eq_getElem?_getD, hx]
  have := (List.all_eq_true.1 h) x (mem_of_get hx)
  unfold okD at this
  simp at this
  exact this
theorem lead_cases {xs : List Q4} {S : List Int} {th : Int} {k : Nat} (hk : k ≤ S.length) (hc : colOk S = true) : (showsTo xs th k = [] ∧ (∀ z, leadTo xs S th k z = z)) ∨ (∃ i r, showsTo xs th k = i :: r ∧ (∀ z, leadTo xs S th k z = S.getD i.toNat 0) ∧ 0 ≤ S.getD i.toNat 0) := by
  cases hl : showsTo xs th k with
  | nil => exact .inl ⟨rfl, fun z => leadTo_nil hl⟩
  | cons i r =>
    obtain ⟨j, x, rfl, hj, _⟩ := showsTo_mem (show i ∈ showsTo xs th k by rw [hl]; simp)
    exact .inr ⟨_, r, rfl, fun z => leadTo_cons hl, (col_get hc _ (by simp; omega)).1⟩
theorem fL_set {xs : List Q4} {S : List Int} {Tn i : Nat} (hk : xs.length ≤ S.length) (hc : colOk S = true) : (fL xs S Tn i).set i (max (leadTo xs S (i : Int) xs.length (-1)) 0) = fL xs S Tn (i + 1) := by
  apply List.ext_getElem?
  intro k
  rw [List.getElem?_set, fL_len]
  unfold fL
  by_cases h : i = k
  · subst h
    by_cases hT : i < Tn
    · simp [hT]
      rcases lead_cases (xs := xs) (th := (i : Int)) hk hc with ⟨_, h2⟩ | ⟨a, r, _, h2, h3⟩
      · rw [h2, h2]; omega
      · rw [h2, h2]; omega
    · simp [hT]
  · by_cases hT : k < Tn
    · by_cases h1 : k < i
      · simp [h, hT, h1, show k < i + 1 by omega]
      · simp [h, hT, h1, show ¬ k < i + 1 by omega]
    · simp [h, hT]
set_option maxRecDepth 100000 in
set_option maxHeartbeats 4000000 in
theorem least23 (t : Int) (A B D : Option Addr) (n c m d k e : Nat) (xs ps : List Q4) (ds : List Int) (w : World) (hn : n ≤ 9223372036854775807) (hm : m ≤ 9223372036854775807) (hk : k ≤ 9223372036854775807) (hx : RdQ w w.heap.size A xs) (hp : RdQ w w.heap.size B ps) (hd : RdI w w.heap.size D ds)
    (hl : xs.length = n) (hl' : ps.length = m) (hlk : ds.length = k) (ht0 : -9223372036854775808 ≤ t) :
    Calls Try.prog 23 #[vCloth t A n c B m d, .slice D k e] w (RetIE (leastR t xs ps ds) (leastE t xs ps ds) w) := by
  have HX := Lib.hid hx
  have HD := Lib.hid hd
  have C1 := Lib.hid (fun (W : World) (hb : Below w.heap.size w W) => check42 t A B n c m d xs ps W hn hm (hx.up hb) (hp.up hb) hl hl' ht0)
  have C2 := Lib.hid (fun (W : World) (hb : Below w.heap.size w W) => bad43 D k e (n : Int) ds W hk (hd.up hb) hlk)
  clear hx hp hd
  have HL := Lib.hid hl
  have HK := Lib.hid hlk
  have K0 : Has (w.alloc (.cells #[.int .i64 t, .slice A n c, .slice B m d] 25)) w.heap.size 25 [.int .i64 t, .slice A n c, .slice B m d] := Has.new rfl
  by_cases hE : ckE t xs ps = 0
  · cases hcol : (decide ((ds.length : Int) = (n : Int)) && colOk ds) with
    | false =>
      have e1 : leastE t xs ps ds = 2 := by unfold leastE; rw [if_pos hE, if_neg (by rintro ⟨h1, h2⟩; rw [hl] at h1; rw [h2, decide_eq_true h1] at hcol; cases hcol)]
      have e2 : leastR t xs ps ds = [] := by unfold leastR; rw [e1]; rfl
      rw [e1, e2]
      rw [hE] at C1
      rw [hcol] at C2
      clear e1 e2 hE hcol
      go_enter Try.func23, Try.ntmps23
      go_wp2_with fail
      refine (C1.out _ (by go_grown)).mono ?_
      rintro e w1 ⟨rfl, hb1⟩
      have B1 := bvia (show Below w.heap.size w _ by go_grown) hb1
      have HC := Lib.hid (K0.below hb1 K0.lt)
      have a0 : w1.cell? ⟨w.heap.size, 0, none⟩ = some (.int .i64 t) := HC.out.cell 0
      have a1 : w1.cell? ⟨w.heap.size, 1, none⟩ = some (.slice A n c) := HC.out.cell 1
      have q := HC.out.lt
      clear K0 hb1 C1
      go_wp2_with fail
      refine (C2.out _ B1).mono ?_
      rintro e w2 ⟨rfl, rfl⟩
      go_wp2
      go_ret2
      exact ⟨none, 0, 0, rfl, Rd1.nil _ _ _ _, rfl, Nat.le_refl _, by omega, B1⟩
    | true =>
      have hco : (ds.length : Int) = n ∧ colOk ds = true := by simpa using hcol
      have HBad : Hid (leastOk t xs ds = false → leastE t xs ps ds = 4 ∧ leastR t xs ps ds = []) := fun h => by
        have e1 : leastE t xs ps ds = 4 := by unfold leastE; rw [if_pos hE, if_pos ⟨by rw [hl]; exact hco.1, hco.2⟩, h]; rfl
        exact ⟨e1, by unfold leastR; rw [e1]; rfl⟩
      have HGood : Hid (leastOk t xs ds = true → leastE t xs ps ds = 0 ∧ leastR t xs ps ds = leastL t xs ds) := fun h => by
        have e1 : leastE t xs ps ds = 0 := by unfold leastE; rw [if_pos hE, if_pos ⟨by rw [hl]; exact hco.1, hco.2⟩, h]; rfl
        exact ⟨e1, by unfold leastR; rw [e1]; rfl⟩
      have HCOL := Lib.hid hco.2
      obtain ⟨g1, g2, g3, _⟩ := ckE_ok hE
      have HCR := Lib.hid (cross_ok hE)
      have hn2 : n ≤ 20000 := by rw [hl] at g3; exact g3
      have hkn : k = n := by have := hco.1; omega
      subst hkn
      rw [hE] at C1
      rw [hcol] at C2
      clear hE hcol hco g3 hl hl'
      obtain ⟨Tn, rfl⟩ := Int.eq_ofNat_of_zero_le (show 0 ≤ t by omega)
      have hTn : Tn ≤ 48 := by omega
      have hTn1 : 1 ≤ Tn := by omega
      generalize leastE (Tn : Int) xs ps ds = rE at *
      generalize leastR (Tn : Int) xs ps ds = rL at *
      go_enter Try.func23, Try.ntmps23
      go_wp2_with fail
      refine (C1.out _ (by go_grown)).mono ?_
      rintro e w1 ⟨rfl, hb1⟩
      have B1 := bvia (show Below w.heap.size w _ by go_grown) hb1
      have HC := Lib.hid (K0.below hb1 K0.lt)
      have a0 : w1.cell? ⟨w.heap.size, 0, none⟩ = some (.int .i64 (Tn : Int)) := HC.out.cell 0
      have a1 : w1.cell? ⟨w.heap.size, 1, none⟩ = some (.slice A k c) := HC.out.cell 1
      have q := HC.out.lt
      clear K0 hb1 C1
      go_wp2_with fail
      refine (C2.out _ B1).mono ?_
      rintro e w2 ⟨rfl, rfl⟩
      go_wp2_with fail
      refine (repeat49 w2.heap.size _ Tn (-1) _ (by go_simp) hTn1 hTn).mono ?_
      rintro e' w3 ⟨rfl, hG0, hb3⟩
      have hb3' : Below w2.heap.size w2 w3 := bvia (show Below w2.heap.size w2 _ by go_grown) hb3
      have HC3 := Lib.hid (HC.out.below hb3' q)
      have B3 := bvia B1 hb3'
      obtain ⟨g, hg⟩ : ∃ g, g = (w2.alloc (.cells #[.int .i64 (-1)] 3)).heap.size := ⟨_, rfl⟩
      rw [← hg] at hG0 ⊢
      have hgw : w.heap.size < g := by simp at hg; omega
      have hG1 : Has w3 g 3 ((lL xs ds Tn 0).map vInt) := by rw [lL_zero, List.map_replicate]; exact hG0
      have HG1 := Lib.hid hG1
      have a1' : w3.cell? ⟨w.heap.size, 1, none⟩ = some (.slice A k c) := HC3.out.cell 1
      have q3 := HC3.out.lt
      clear HC a0 a1 q C2 hb3 hb3' hG0 hG1 hg B1
      go_wp2
      go_loopw [30] (fun i wr => ∃ j : Nat, j ≤ k ∧ i = .int .i64 (j : Int) ∧ Hid (Has wr g 3 ((lL xs ds Tn j).map vInt)) ∧ Hid (∀ T : Nat, T < Tn → agree xs ds (T : Int) j) ∧ Below w.heap.size w wr) (fun i _ => k - (intOf i).toNat)
      case atStart => exact ⟨0, Nat.zero_le _, rfl, HG1, Lib.hid (show ∀ T : Nat, T < Tn → agree xs ds (T : Int) 0 from fun T _ i hi => by cases hi), B3⟩
      case round =>
        clear HG1 B3 HC3 a1' q3
        obtain ⟨j, hj, rfl, HG, HAG, hb⟩ := hrel
        obtain ⟨wo, rfl⟩ : ∃ wo : World, wo = wr := ⟨_, rfl⟩
        have qg := HG.out.lt
        by_cases hlt : j < k
        · obtain ⟨x, hx⟩ := get_of_lt (l := xs) (k := j) (by rw [HL.out]; exact hlt)
          obtain ⟨ba, o, rfl, hba, c0, c1, c2, c3⟩ := (HX.out.below (B' := w.heap.size) hb (Nat.le_refl _)) _ x hx
          obtain ⟨⟨⟨hc0, hc1⟩, _⟩, _⟩ := HCR.out x (mem_of_get hx)
          obtain ⟨i, hi⟩ := Int.eq_ofNat_of_zero_le hc0
          have hiT : i < Tn := by omega
          have hiT' : (i : Int) < (Tn : Int) := by omega
          obtain ⟨s, hs⟩ := get_of_lt (l := ds) (k := j) (by rw [HK.out]; exact hlt)
          obtain ⟨bs, os, rfl, hbs, v0⟩ := (HD.out.below (B' := w.heap.size) hb (Nat.le_refl _)) _ s hs
          obtain ⟨v, hv⟩ : ∃ v, v = leadTo xs ds x.c j (-1) := ⟨_, rfl⟩
          have g0 : wo.cell? ⟨g, i, none⟩ = some (.int .i64 v) := by
            rw [HG.out.cell, List.getElem?_map, lL_get hiT, hv, hi]; rfl
          have hcs := lead_cases (xs := xs) (th := x.c) (k := j) (S := ds) (by rw [HK.out]; omega) HCOL.out
          have HCS := Lib.hid hcs; clear hcs
          have HV := Lib.hid hv; clear hv
          have HXk := Lib.hid hx; have HI := Lib.hid hi; have HSj := Lib.hid hs
          rw [hi] at c2
          clear hx hi hs hc0 hc1
          have jk : (j : Int) < (k : Int) := by omega
          have hbsz := hb.size
          have zs : bs < wo.heap.size := by omega
          by_cases hbad : v ≠ -1 ∧ v ≠ s
          · have hv1 : (v != -1) = true := by simpa using hbad.1
            have hv2 : (v != s) = true := by simpa using hbad.2
            obtain ⟨hF1, hF2⟩ := HBad.out (leastOk_not (T := i) hiT' (by
              rcases HCS.out with ⟨_, h2⟩ | ⟨i0, r, h1, h2, _⟩
              · exact absurd ((HV.out).trans (h2 _)) hbad.1
              · have := agree_no HXk.out HSj.out h1 (by rw [← h2 (-1), ← HV.out]; exact hbad.2)
                rwa [HI.out] at this))
            have HF1 := Lib.hid hF1; have HF2 := Lib.hid hF2; clear hF1 hF2 hbad
            go_wp2
            go_ret2
            refine ⟨none, 0, 0, by rw [HF1.out]; rfl, ?_, by rw [HF2.out]; rfl, Nat.le_refl _, by omega, hb.trans (by go_grown)⟩
            rw [HF2.out]; exact Rd1.nil _ _ _ _
          · have HS : Hid (leadTo xs ds x.c (j + 1) (-1) = s ∧ (agree xs ds x.c j → agree xs ds x.c (j + 1))) := leadTo_same HXk.out HSj.out (by
              rcases HCS.out with ⟨h1, _⟩ | ⟨i0, r, h1, h2, h3⟩
              · exact .inl h1
              · right
                rw [h2 0, ← h2 (-1), ← HV.out]
                by_cases e : v = -1
                · have := HV.out.symm.trans e; rw [h2] at this; omega
                · exact Classical.byContradiction fun h => hbad ⟨e, h⟩)
            have hgd : (v != -1) = false ∨ ((v != -1) = true ∧ (v != s) = false) := by
              by_cases e : v = -1
              · left; simpa using e
              · right; exact ⟨by simpa using e, by simpa using Classical.byContradiction fun h => hbad ⟨e, h⟩⟩
            have HLS : Hid ((lL xs ds Tn j).set i s = lL xs ds Tn (j + 1)) := lL_set HXk.out HI.out HS.out.1
            have HAG2 : Hid (∀ T : Nat, T < Tn → agree xs ds (T : Int) (j + 1)) := fun T hT => by
              by_cases h : x.c = (T : Int)
              · rw [← h]; exact HS.out.2 (by rw [h]; exact HAG.out T hT)
              · exact agree_other HXk.out h (HAG.out T hT)
            clear hbad
            have KEY : ∀ (W : World), W = wo.alloc (.cells #[.int .i64 x.a, .int .i64 x.b, .int .i64 (i : Int), .int .i64 x.d] 38) → Has W g 3 ((lL xs ds Tn j).map vInt) ∧ Below w.heap.size w W ∧ W.cell? ⟨wo.heap.size, 2, none⟩ = some (.int .i64 (i : Int)) ∧ W.cell? ⟨bs, os + j, none⟩ = some (.int .i64 s) ∧ W.heap.size = wo.heap.size + 1 := by
              rintro W rfl
              have hX1 : Has (wo.alloc (.cells #[.int .i64 x.a, .int .i64 x.b, .int .i64 (i : Int), .int .i64 x.d] 38)) wo.heap.size 38 [.int .i64 x.a, .int .i64 x.b, .int .i64 (i : Int), .int .i64 x.d] := Has.new rfl
              exact ⟨HG.out.alloc _, hb.alloc hbsz _, hX1.cell 2, (World.cell?_of_block (Below.heap_alloc wo _ bs zs)).trans v0, by simp⟩
            have HKEY := Lib.hid KEY; clear KEY
            rcases hgd with hv1 | ⟨hv1, hv2⟩
            · go_wp2
              obtain ⟨w4, hw4⟩ : ∃ w4, w4 = wo.alloc (.cells #[.int .i64 x.a, .int .i64 x.b, .int .i64 (i : Int), .int .i64 x.d] 38) := ⟨_, rfl⟩
              rw [← hw4]
              obtain ⟨k1, k2, k3, k4, k5⟩ := HKEY.out w4 hw4
              have f1 := k1.free i
              have f2 : w4.cell? ⟨g, i, none⟩ = some (.int .i64 v) := (k1.cell i).trans (by rw [List.getElem?_map, lL_get hiT, ← HI.out, ← HV.out]; rfl)
              have qg4 := k1.lt
              have n1 : wo.heap.size ≠ g := by omega
              have n2 : bs ≠ g := by omega
              have n3 : g ≠ wo.heap.size := by omega
              have n4 : g ≠ bs := by omega
              have K1 := Lib.hid k1; clear k1 hw4
              go_region_held3 (fun W => W.cell? ⟨wo.heap.size, 2, none⟩ = some (.int .i64 (i : Int)) ∧ W.cell? ⟨bs, os + j, none⟩ = some (.int .i64 s)) (go_keep) (fail)
              go_wp2
              go_roundw
              case rel =>
                have h1 := (K1.out.set i (.int .i64 s)).drew
                rw [show ((lL xs ds Tn j).map vInt).set i (.int .i64 s) = (lL xs ds Tn (j + 1)).map vInt by rw [← HLS.out, List.map_set]] at h1
                exact ⟨j + 1, by omega, by go_num, Lib.hid h1, HAG2, (k2.setCell (by simp; omega) _).drew⟩
              case measure => first | (simp [intOf]; done) | (simp [intOf]; omega)
            · go_wp2
              obtain ⟨w4, hw4⟩ : ∃ w4, w4 = wo.alloc (.cells #[.int .i64 x.a, .int .i64 x.b, .int .i64 (i : Int), .int .i64 x.d] 38) := ⟨_, rfl⟩
              rw [← hw4]
              obtain ⟨k1, k2, k3, k4, k5⟩ := HKEY.out w4 hw4
              have f1 := k1.free i
              have f2 : w4.cell? ⟨g, i, none⟩ = some (.int .i64 v) := (k1.cell i).trans (by rw [List.getElem?_map, lL_get hiT, ← HI.out, ← HV.out]; rfl)
              have qg4 := k1.lt
              have n1 : wo.heap.size ≠ g := by omega
              have n2 : bs ≠ g := by omega
              have n3 : g ≠ wo.heap.size := by omega
              have n4 : g ≠ bs := by omega
              have K1 := Lib.hid k1; clear k1 hw4
              go_region_held3 (fun W => W.cell? ⟨wo.heap.size, 2, none⟩ = some (.int .i64 (i : Int)) ∧ W.cell? ⟨bs, os + j, none⟩ = some (.int .i64 s)) (go_keep) (fail)
              go_wp2
              go_roundw
              case rel =>
                have h1 := (K1.out.set i (.int .i64 s)).drew
                rw [show ((lL xs ds Tn j).map vInt).set i (.int .i64 s) = (lL xs ds Tn (j + 1)).map vInt by rw [← HLS.out, List.map_set]] at h1
                exact ⟨j + 1, by omega, by go_num, Lib.hid h1, HAG2, (k2.setCell (by simp; omega) _).drew⟩
              case measure => first | (simp [intOf]; done) | (simp [intOf]; omega)
        · obtain rfl : j = k := by omega
          have hok := leastOk_all (t := (Tn : Int)) (xs := xs) (S := ds) (fun T' h => by rw [HL.out]; exact HAG.out T' (by omega))
          obtain ⟨hF1, hF2⟩ := HGood.out hok
          have HF1 := Lib.hid hF1; have HF2 := Lib.hid hF2; clear hF1 hF2 hok
          have hG0 : Hid (Has wo g 3 ((fL xs ds Tn 0).map vInt)) := by
            show Has wo g 3 ((fL xs ds Tn 0).map vInt)
            rw [fL_zero, HL.out]; exact HG.out
          clear HG
          go_wp2
          go_loopw [61] (fun i wr => ∃ T : Nat, T ≤ Tn ∧ i = .int .i64 (T : Int) ∧ Hid (Has wr g 3 ((fL xs ds Tn T).map vInt)) ∧ Below w.heap.size w wr) (fun i _ => Tn - (intOf i).toNat)
          case atStart => exact ⟨0, Nat.zero_le _, rfl, hG0, hb⟩
          case round =>
            clear hG0 hb qg
            obtain ⟨T, hT, rfl, HG, hb⟩ := hrel
            obtain ⟨wo, rfl⟩ : ∃ wo : World, wo = wr := ⟨_, rfl⟩
            have qg := HG.out.lt
            by_cases hlt : T < Tn
            · obtain ⟨v, hv⟩ : ∃ v, v = leadTo xs ds (T : Int) xs.length (-1) := ⟨_, rfl⟩
              have g0 : wo.cell? ⟨g, T, none⟩ = some (.int .i64 v) := by
                rw [HG.out.cell, List.getElem?_map, hv]
                simp [fL, hlt]
              have f0 := HG.out.free T
              have HV := Lib.hid hv; clear hv
              have HS : Hid ((fL xs ds Tn T).set T (max v 0) = fL xs ds Tn (T + 1)) := by
                show (fL xs ds Tn T).set T (max v 0) = _
                rw [HV.out]; exact fL_set (by rw [HL.out, HK.out]; exact Nat.le_refl _) HCOL.out
              go_wp2
              go_roundw
              case rel =>
                have h1 := HG.out.set T (.int .i64 (max v 0))
                rw [show ((fL xs ds Tn T).map vInt).set T (.int .i64 (max v 0)) = (fL xs ds Tn (T + 1)).map vInt by rw [← HS.out, List.map_set]] at h1
                have e : (if v < 0 then (0 : Int) else v) = max v 0 := by split <;> omega
                refine ⟨T + 1, by omega, by go_num, Lib.hid ?_, hb.setCell (by simp; omega) _⟩
                rw [e]; exact h1
              case measure => first | (simp [intOf]; done) | (simp [intOf]; omega)
            · obtain rfl : T = Tn := by omega
              go_wp2
              go_ret2
              refine ⟨some ⟨g, 0, none⟩, T, T, by rw [HF1.out]; rfl, ?_, by rw [HF2.out]; simp [leastL], Nat.le_refl _, by omega, hb⟩
              rw [HF2.out, ← fL_all]
              exact rdI_has (rest := []) (by rw [List.append_nil]; exact HG.out)
  · have e1 : leastE t xs ps ds = ckE t xs ps := by unfold leastE; rw [if_neg hE]
    have e2 : leastR t xs ps ds = [] := by unfold leastR; rw [e1, if_neg hE]
    rw [e1, e2]
    generalize ckE t xs ps = r at *
    have hr : (r != 0) = true := by simpa using hE
    clear hE e1 e2
    go_enter Try.func23, Try.ntmps23
    go_wp2_with fail
    refine (C1.out _ (by go_grown)).mono ?_
    rintro e w1 ⟨rfl, hb1⟩
    have B1 := bvia (show Below w.heap.size w _ by go_grown) hb1
    have HC := Lib.hid (K0.below hb1 K0.lt)
    have a0 : w1.cell? ⟨w.heap.size, 0, none⟩ = some (.int .i64 t) := HC.out.cell 0
    have a1 : w1.cell? ⟨w.heap.size, 1, none⟩ = some (.slice A n c) := HC.out.cell 1
    have q := HC.out.lt
    clear K0 hb1 C1
    go_wp2
    go_ret2
    exact ⟨none, 0, 0, rfl, Rd1.nil _ _ _ _, rfl, Nat.le_refl _, by omega, B1⟩
end Go.Proofs.Ytnijfkidgndbdaa
