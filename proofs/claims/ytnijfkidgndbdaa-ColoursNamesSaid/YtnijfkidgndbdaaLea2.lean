/-
  Contract of chapter 21: the document's Least.
-/
import Derived.Test.YtnijfkidgndbdaaLea
namespace Go.Proofs.Ytnijfkidgndbdaa
open Go.RowKit
/-- the dyes that Least has found when it has done the threads before T, and T too if b -/
def oL (xs : List Q4) (S : List Int) (Tn T : Nat) (b : Bool) : List Int := (List.range Tn).map fun (i : Nat) => if i < T ∨ (i = T ∧ b = true) then leadTo xs S (i : Int) xs.length 0 else 0
theorem oL_len (xs : List Q4) (S : List Int) (Tn T : Nat) (b : Bool) : (oL xs S Tn T b).length = Tn := by simp [oL]
theorem oL_zero (xs : List Q4) (S : List Int) (Tn : Nat) : oL xs S Tn 0 false = List.replicate Tn 0 := by
  apply List.ext_getElem?
  intro i
  simp [oL, List.getElem?_replicate]
  by_cases h : i < Tn <;> simp [h]
theorem oL_set (xs : List Q4) (S : List Int) (Tn T : Nat) (b : Bool) : (oL xs S Tn T b).set T (leadTo xs S (T : Int) xs.length 0) = oL xs S Tn T true := by
  apply List.ext_getElem?
  intro i
  unfold oL
  rw [List.getElem?_set]
  by_cases h : T = i
  · subst h
    by_cases hT : T < Tn <;> simp [hT]
  · simp [h]
    by_cases hT : i < Tn
    · have h' : ¬ i = T := fun e => h e.symm
      simp [hT, h']
    · simp [hT]
theorem oL_next (xs : List Q4) (S : List Int) (Tn T : Nat) (b : Bool) (h : b = true ∨ showsTo xs (T : Int) xs.length = []) : oL xs S Tn T b = oL xs S Tn (T + 1) false := by
  unfold oL
  apply List.map_congr_left
  intro i _
  by_cases h1 : i < T
  · simp [h1, show i < T + 1 by omega]
  · by_cases h2 : i = T
    · subst h2
      rcases h with h | h
      · simp [h]
      · have e := leadTo_nil (S := S) (z := 0) h
        simp [e]
    · simp [h1, h2, show ¬ i < T + 1 by omega]
theorem oL_all (xs : List Q4) (S : List Int) (Tn : Nat) : oL xs S Tn Tn false = leastL (Tn : Int) xs S := by
  unfold oL leastL
  rw [show ((Tn : Nat) : Int).toNat = Tn by simp]
  apply List.map_congr_left
  intro i hi
  simp at hi
  simp [hi]
theorem showR_ok {t : Int} {xs ps : List Q4} {th : Int} (h : ckE t xs ps = 0) (h0 : 0 ≤ th) (h1 : th < t) : showE t xs ps th = 0 ∧ showR t xs ps th = showsTo xs th xs.length := by
  have e : showE t xs ps th = 0 := by unfold showE; rw [if_pos h, if_pos ⟨h0, h1⟩]
  exact ⟨e, by unfold showR; rw [if_pos e]⟩
set_option maxRecDepth 100000 in
set_option maxHeartbeats 4000000 in
theorem least24 (t : Int) (A B D : Option Addr) (n c m d k e : Nat) (xs ps : List Q4) (ds : List Int) (w : World) (hn : n ≤ 9223372036854775807) (hm : m ≤ 9223372036854775807) (hk : k ≤ 9223372036854775807) (hx : RdQ w w.heap.size A xs) (hp : RdQ w w.heap.size B ps) (hd : RdI w w.heap.size D ds)
    (hl : xs.length = n) (hl' : ps.length = m) (hlk : ds.length = k) (ht0 : -9223372036854775808 ≤ t) :
    Calls Try.prog 24 #[vCloth t A n c B m d, .slice D k e] w (RetIE (leastR t xs ps ds) (leastE t xs ps ds) w) := by
  have HD := Lib.hid hd
  have C1 := Lib.hid (fun (W : World) (hb : Below w.heap.size w W) => check17 t A B n c m d xs ps W hn hm (hx.up hb) (hp.up hb) hl hl' ht0)
  have C2 := Lib.hid (fun (W : World) (hb : Below w.heap.size w W) => colour45 D k e ds W hk (hd.up hb) hlk)
  have C3 := Lib.hid (fun (th : Int) (W : World) (hb : Below w.heap.size w W) => shows33 t A B n c m d th xs ps W hn hm (hx.up hb) (hp.up hb) hl hl' ht0)
  clear hx hp hd
  have HL := Lib.hid hl
  have HK := Lib.hid hlk
  have K0 : Has (w.alloc (.cells #[.int .i64 t, .slice A n c, .slice B m d] 25)) w.heap.size 25 [.int .i64 t, .slice A n c, .slice B m d] := Has.new rfl
  by_cases hE : ckE t xs ps = 0
  · by_cases hlen : (k : Int) = (n : Int)
    · have d0 : ((k : Int) != (n : Int)) = false := by simpa using hlen
      cases hcol : colOk ds with
      | false =>
        have e1 : leastE t xs ps ds = 2 := by unfold leastE; rw [if_pos hE, if_neg (by rw [hcol]; rintro ⟨_, h⟩; cases h)]
        have e2 : leastR t xs ps ds = [] := by unfold leastR; rw [e1]; rfl
        rw [e1, e2]
        rw [hE] at C1
        rw [hcol] at C2
        clear e1 e2 hE hlen hcol C3
        go_enter Try.func24, Try.ntmps24
        go_wp2_with fail
        refine (C1.out _ (by go_grown)).mono ?_
        rintro e w1 ⟨rfl, hb1⟩
        have B1 := bvia (show Below w.heap.size w _ by go_grown) hb1
        have HC := Lib.hid (K0.below hb1 K0.lt)
        have a0 : w1.cell? ⟨w.heap.size, 0, none⟩ = some (.int .i64 t) := HC.out.cell 0
        have a1 : w1.cell? ⟨w.heap.size, 1, none⟩ = some (.slice A n c) := HC.out.cell 1
        have q := HC.out.lt
        clear K0 hb1 C1
        go_wp2_with fail
        refine (C2.out _ B1).mono ?_
        rintro e w2 ⟨rfl, rfl⟩
        go_wp2
        go_ret2
        exact ⟨none, 0, 0, rfl, Rd1.nil _ _ _ _, rfl, Nat.le_refl _, by omega, B1⟩
      | true =>
        have HBad : Hid (leastOk t xs ds = false → leastE t xs ps ds = 4 ∧ leastR t xs ps ds = []) := fun h => by
          have e1 : leastE t xs ps ds = 4 := by unfold leastE; rw [if_pos hE, if_pos ⟨by rw [hlk, hl]; exact hlen, hcol⟩, h]; rfl
          exact ⟨e1, by unfold leastR; rw [e1]; rfl⟩
        have HGood : Hid (leastOk t xs ds = true → leastE t xs ps ds = 0 ∧ leastR t xs ps ds = leastL t xs ds) := fun h => by
          have e1 : leastE t xs ps ds = 0 := by unfold leastE; rw [if_pos hE, if_pos ⟨by rw [hlk, hl]; exact hlen, hcol⟩, h]; rfl
          exact ⟨e1, by unfold leastR; rw [e1]; rfl⟩
        obtain ⟨g1, g2, g3, _⟩ := ckE_ok hE
        have H3 : Hid (∀ th : Int, 0 ≤ th → th < t → showE t xs ps th = 0 ∧ showR t xs ps th = showsTo xs th xs.length) := fun th h0 h1 => showR_ok hE h0 h1
        have hn2 : n ≤ 20000 := by rw [hl] at g3; exact g3
        have hkn : k = n := by omega
        subst hkn
        rw [hE] at C1
        rw [hcol] at C2
        clear hE hlen hcol g3 hl hl'
        obtain ⟨Tn, rfl⟩ := Int.eq_ofNat_of_zero_le (show 0 ≤ t by omega)
        have hTn : Tn ≤ 48 := by omega
        have hmk := mkI Tn (by omega)
        generalize leastE (Tn : Int) xs ps ds = rE at *
        generalize leastR (Tn : Int) xs ps ds = rL at *
        go_enter Try.func24, Try.ntmps24
        go_wp2_with fail
        refine (C1.out _ (by go_grown)).mono ?_
        rintro e w1 ⟨rfl, hb1⟩
        have B1 := bvia (show Below w.heap.size w _ by go_grown) hb1
        have HC := Lib.hid (K0.below hb1 K0.lt)
        have a0 : w1.cell? ⟨w.heap.size, 0, none⟩ = some (.int .i64 (Tn : Int)) := HC.out.cell 0
        have a1 : w1.cell? ⟨w.heap.size, 1, none⟩ = some (.slice A k c) := HC.out.cell 1
        have q := HC.out.lt
        clear K0 hb1 C1
        go_wp2_with fail
        refine (C2.out _ B1).mono ?_
        rintro e w2 ⟨rfl, rfl⟩
        go_wp2
        have hG0 : Has (w2.alloc (.cells (madeCells #[.int .i64 0] Tn) 3)) w2.heap.size 3 ((oL xs ds Tn 0 false).map vInt) := Has.new (by rw [made_rep, oL_zero]; simp)
        have hB0 : Below w.heap.size w (w2.alloc (.cells (madeCells #[.int .i64 0] Tn) 3)) := bvia B1 (by go_grown)
        have hC0 := HC.out.alloc (.cells (madeCells #[.int .i64 0] Tn) 3)
        obtain ⟨g, hg⟩ : ∃ g, g = w2.heap.size := ⟨_, rfl⟩
        have hgw : w.heap.size < g := by omega
        rw [← hg] at hG0 ⊢
        clear HC a0 a1 q hmk C2
        go_loopw [8] (fun i wr => ∃ T : Nat, T ≤ Tn ∧ i = .int .i64 (T : Int) ∧ Has wr g 3 ((oL xs ds Tn T false).map vInt) ∧ (∀ T' : Nat, T' < T → agree xs ds (T' : Int) xs.length) ∧ Has wr w.heap.size 25 [.int .i64 (Tn : Int), .slice A k c, .slice B m d] ∧ Below w.heap.size w wr) (fun i _ => Tn - (intOf i).toNat)
        case atStart => exact ⟨0, Nat.zero_le _, rfl, hG0, fun _ h => absurd h (by omega), hC0, hB0⟩
        case round =>
          clear hG0 hB0 hC0 B1 hg
          obtain ⟨T, hT, rfl, hG, hag, hh, hb⟩ := hrel
          obtain ⟨wo, rfl⟩ : ∃ wo : World, wo = wr := ⟨_, rfl⟩
          have HG := Lib.hid hG; clear hG
          have HAG := Lib.hid hag; clear hag
          have HC := Lib.hid hh
          have a0 : wo.cell? ⟨w.heap.size, 0, none⟩ = some (.int .i64 (Tn : Int)) := hh.cell 0
          have a1 : wo.cell? ⟨w.heap.size, 1, none⟩ = some (.slice A k c) := hh.cell 1
          have a2 : wo.cell? ⟨w.heap.size, 2, none⟩ = some (.slice B m d) := hh.cell 2
          have q := hh.lt
          have qg := HG.out.lt
          clear hh
          by_cases hlt : T < Tn
          · obtain ⟨s1, s2⟩ := H3.out (T : Int) (by omega) (by omega)
            have C4 := C3.out (T : Int) wo hb
            rw [s1, s2] at C4
            have HC4 := Lib.hid C4; clear C4 s1 s2
            go_wp2_with fail
            refine HC4.out.mono ?_
            rintro e' w3 ⟨A3, n3, c3, rfl, hR3, hl3, hb3⟩
            have HR3 := Lib.hid hR3; clear hR3
            have HL3 := Lib.hid hl3
            have HG3 := Lib.hid (HG.out.below hb3 qg)
            have HC3 := Lib.hid (HC.out.below hb3 q)
            have B3 := bvia hb hb3
            have hz3 := hb3.size
            obtain ⟨Z, hZ⟩ : ∃ Z, Z = wo.heap.size := ⟨_, rfl⟩
            rw [← hZ] at HR3
            have hgZ : g < Z := by omega
            have hn3 : n3 ≤ 20000 := by have := showsTo_len xs (T : Int) xs.length; rw [hl3, HL.out] at this; omega
            clear HG HC a0 a1 a2 hb3 HC4 hl3 hb q qg
            go_wp2
            go_loopw [11] (fun i wr => ∃ j : Nat, j ≤ n3 ∧ i = .int .i64 (j : Int) ∧ Has wr g 3 ((oL xs ds Tn T (decide (0 < j))).map vInt) ∧ (∀ (j' : Nat) (i' : Int), j' < j → (showsTo xs (T : Int) xs.length)[j']? = some i' → ds.getD i'.toNat 0 = leadTo xs ds (T : Int) xs.length 0) ∧ Has wr w.heap.size 25 [.int .i64 (Tn : Int), .slice A k c, .slice B m d] ∧ Below w.heap.size w wr ∧ wr.ownsRow Z 3 1 (.slice A3 n3 c3) n3 ((showsTo xs (T : Int) xs.length).map vInt)) (fun i _ => n3 - (intOf i).toNat)
            case atStart => exact ⟨0, Nat.zero_le _, rfl, by simpa using HG3.out, fun _ _ h => absurd h (by omega), HC3.out, B3, HR3.out⟩
            case round =>
              clear HG3 HC3 B3 HR3
              obtain ⟨j, hj, rfl, hG, hag, hh, hb, hR3⟩ := hrel
              obtain ⟨wo, rfl⟩ : ∃ wo : World, wo = wr := ⟨_, rfl⟩
              have HG := Lib.hid hG; clear hG
              have HAG3 := Lib.hid hag; clear hag
              have HC := Lib.hid hh; clear hh
              have HR3 := Lib.hid hR3; clear hR3
              have qg := HG.out.lt
              by_cases hlt3 : j < n3
              · obtain ⟨i', hi'⟩ := get_of_lt (l := showsTo xs (T : Int) xs.length) (k := j) (by rw [HL3.out]; exact hlt3)
                obtain ⟨i0, hi0⟩ := get_of_lt (l := showsTo xs (T : Int) xs.length) (k := 0) (by rw [HL3.out]; omega)
                obtain ⟨b3, o3, rfl, hb3, c0⟩ := (own_rd1 HR3.out) _ i' hi'
                obtain ⟨b3', o3', e3, _, c1⟩ := (own_rd1 HR3.out) _ i0 hi0
                injection e3 with e3; injection e3 with e4 e5
                subst e4 e5
                obtain ⟨p, x, rfl, hp, _, _⟩ := showsTo_mem (mem_of_get hi')
                obtain ⟨p0, x0, rfl, hp0, _, _⟩ := showsTo_mem (mem_of_get hi0)
                rw [HL.out] at hp hp0
                obtain ⟨s, hs⟩ := get_of_lt (l := ds) (k := p) (by rw [HK.out]; exact hp)
                obtain ⟨s0, hs0⟩ := get_of_lt (l := ds) (k := p0) (by rw [HK.out]; exact hp0)
                obtain ⟨bs, os, rfl, hbs, v0⟩ := (HD.out.below (B' := w.heap.size) hb (Nat.le_refl _)) _ s hs
                obtain ⟨bs', os', e3, _, v1⟩ := (HD.out.below (B' := w.heap.size) hb (Nat.le_refl _)) _ s0 hs0
                injection e3 with e3; injection e3 with e4 e5
                subst e4 e5
                have hS : ds.getD ((p : Nat) : Int).toNat 0 = s := by rw [show ((p : Nat) : Int).toNat = p by simp, List.getD_eq_getElem?_getD, hs]; rfl
                have hS0 : leadTo xs ds (T : Int) xs.length 0 = s0 := by
                  obtain ⟨r, hr⟩ : ∃ r, showsTo xs (T : Int) xs.length = (p0 : Int) :: r := by
                    cases hq : showsTo xs (T : Int) xs.length with
                    | nil => rw [hq] at hi0; cases hi0
                    | cons a r => rw [hq] at hi0; simp at hi0; exact ⟨r, by rw [hi0]⟩
                  rw [leadTo_cons hr, show ((p0 : Nat) : Int).toNat = p0 by simp, List.getD_eq_getElem?_getD, hs0]; rfl
                have HS := Lib.hid hS; have HS0 := Lib.hid hS0; have HI' := Lib.hid hi'
                have ip : (p : Int) < (k : Int) := by omega
                have ip0 : (p0 : Int) < (k : Int) := by omega
                have j3 : (0 : Int) < (n3 : Int) := by omega
                have j4 : 0 < n3 := by omega
                have z3 : b3 < wo.heap.size := block_lt_of_cell c0
                have zs : bs < wo.heap.size := block_lt_of_cell v0
                rw [Nat.add_zero] at c1
                clear hi' hi0 hs hs0 hS hS0
                by_cases hne : s = s0
                · have hned : (s != s0) = false := by simpa using hne
                  have HNE := Lib.hid hne; clear hne
                  go_wp2
                  have hxc := fun (x : Ext wo) => x.cell
                  refine wp_region_ext (by kernel_rfl) (by kernel_rfl) ?_
                  repeat (go_big_quiet_step (fail))
                  refine wpQuiet_nil ?_
                  intro w6 hw'
                  have hb6 := ext_below hw'; clear hw' hxc
                  have c1' := (hb6.cell (p := ⟨b3, o3, none⟩) z3).trans c1
                  have v1' := (hb6.cell (p := ⟨bs, os + p0, none⟩) zs).trans v1
                  have HG6 := Lib.hid (HG.out.below hb6 qg)
                  have HC6 := Lib.hid (HC.out.below hb6 HC.out.lt)
                  have B6 := bvia hb hb6
                  have R6 := Lib.hid (own_below HR3.out hb6)
                  have f6 := HG6.out.free T
                  have g6 : w6.cell? ⟨g, T, none⟩ = some (.int .i64 ((oL xs ds Tn T (decide (0 < j))).getD T 0)) := by
                    rw [HG6.out.cell, List.getElem?_map]
                    obtain ⟨y, hy⟩ := get_of_lt (l := oL xs ds Tn T (decide (0 < j))) (k := T) (by rw [oL_len]; exact hlt)
                    rw [List.getD_eq_getElem?_getD, hy]; rfl
                  have qg6 := HG6.out.lt
                  clear c0 c1 v0 v1 hb6
                  go_wp2
                  go_roundw
                  case rel =>
                    have hG7 := HG6.out.set T (.int .i64 s0)
                    rw [← HS0.out] at hG7
                    have e7 : ((oL xs ds Tn T (decide (0 < j))).map vInt).set T (.int .i64 (leadTo xs ds (T : Int) xs.length 0)) = (oL xs ds Tn T (decide (0 < j + 1))).map vInt := by
                      rw [show decide (0 < j + 1) = true from decide_eq_true (by omega), ← oL_set xs ds Tn T (decide (0 < j)), List.map_set]
                    rw [e7, HS0.out] at hG7
                    refine ⟨j + 1, by omega, by go_num, hG7, ?_, HC6.out.far (by omega) _ _, B6.setCell (by simp; omega) _, ?_⟩
                    · intro j' i' hj' hi'
                      by_cases hjj : j' < j
                      · exact HAG3.out j' i' hjj hi'
                      · obtain rfl : j' = j := by omega
                        rw [HI'.out] at hi'; injection hi' with hi'
                        rw [← hi', HS.out, HS0.out]; exact HNE.out
                    · exact ownsRow_setCell_below R6.out (by simpa using hgZ) _
                  case measure => first | (simp [intOf]; done) | (simp [intOf]; omega)
                · have hned : (s != s0) = true := by simpa using hne
                  have HNE := Lib.hid hne; clear hne
                  obtain ⟨hF1, hF2⟩ := HBad.out (leastOk_not (T := T) (by omega) (by
                    intro ha
                    have := ha _ (mem_of_get HI'.out)
                    rw [HS.out, HS0.out] at this
                    exact HNE.out this))
                  have HF1 := Lib.hid hF1; have HF2 := Lib.hid hF2; clear hF1 hF2
                  go_wp2
                  have hxc := fun (x : Ext wo) => x.cell
                  refine wp_region_ext (by kernel_rfl) (by kernel_rfl) ?_
                  repeat (go_big_quiet_step (fail))
                  refine wpQuiet_nil ?_
                  intro w6 hw'
                  have hb6 := ext_below hw'; clear hw' hxc
                  have B6 := bvia hb hb6
                  clear hb6
                  go_wp2
                  go_ret2
                  refine ⟨none, 0, 0, by rw [HF1.out]; rfl, ?_, by rw [HF2.out]; rfl, Nat.le_refl _, by omega, B6⟩
                  rw [HF2.out]; exact Rd1.nil _ _ _ _
              · obtain rfl : j = n3 := by omega
                have HAT : Hid (agree xs ds (T : Int) xs.length) := by
                  intro i hi
                  obtain ⟨j', hj'⟩ := List.mem_iff_getElem?.1 hi
                  exact HAG3.out j' i (by have := lt_of_get hj'; rw [HL3.out] at this; exact this) hj'
                have HN : Hid (oL xs ds Tn T (decide (0 < j)) = oL xs ds Tn (T + 1) false) := oL_next _ _ _ _ _ (by
                  by_cases h0 : 0 < j
                  · left; exact decide_eq_true h0
                  · right; exact List.eq_nil_of_length_eq_zero (by rw [HL3.out]; omega))
                go_wp2
                go_roundw
                case rel =>
                  refine ⟨T + 1, by omega, by go_num, by rw [← HN.out]; exact HG.out, ?_, HC.out, hb⟩
                  intro T' hT'
                  by_cases h : T' < T
                  · exact HAG.out T' h
                  · obtain rfl : T' = T := by omega
                    exact HAT.out
                case measure => first | (simp [intOf]; done) | (simp [intOf]; omega)
          · obtain rfl : T = Tn := by omega
            obtain ⟨hF1, hF2⟩ := HGood.out (leastOk_all (fun T' h => HAG.out T' (by omega)))
            have HF1 := Lib.hid hF1; have HF2 := Lib.hid hF2; clear hF1 hF2
            go_wp2
            go_ret2
            refine ⟨some ⟨g, 0, none⟩, T, T, by rw [HF1.out]; rfl, ?_, by rw [HF2.out]; simp [leastL], Nat.le_refl _, by omega, hb⟩
            rw [HF2.out, ← oL_all]
            exact rdI_has (rest := []) (by rw [List.append_nil]; exact HG.out)
    · have d0 : ((k : Int) != (n : Int)) = true := by simpa using hlen
      have e1 : leastE t xs ps ds = 2 := by unfold leastE; rw [if_pos hE, if_neg (by rintro ⟨h, _⟩; rw [hlk, hl] at h; exact hlen h)]
      have e2 : leastR t xs ps ds = [] := by unfold leastR; rw [e1]; rfl
      rw [e1, e2]
      rw [hE] at C1
      clear e1 e2 hE hlen C3
      go_enter Try.func24, Try.ntmps24
      go_wp2_with fail
      refine (C1.out _ (by go_grown)).mono ?_
      rintro e w1 ⟨rfl, hb1⟩
      have B1 := bvia (show Below w.heap.size w _ by go_grown) hb1
      have HC := Lib.hid (K0.below hb1 K0.lt)
      have a0 : w1.cell? ⟨w.heap.size, 0, none⟩ = some (.int .i64 t) := HC.out.cell 0
      have a1 : w1.cell? ⟨w.heap.size, 1, none⟩ = some (.slice A n c) := HC.out.cell 1
      have q := HC.out.lt
      clear K0 hb1 C1
      go_wp2
      go_ret2
      exact ⟨none, 0, 0, rfl, Rd1.nil _ _ _ _, rfl, Nat.le_refl _, by omega, B1⟩
  · have e1 : leastE t xs ps ds = ckE t xs ps := by unfold leastE; rw [if_neg hE]
    have e2 : leastR t xs ps ds = [] := by unfold leastR; rw [e1, if_neg hE]
    rw [e1, e2]
    generalize ckE t xs ps = r at *
    have hr : (r != 0) = true := by simpa using hE
    have hr' : (r == 0) = false := by simpa using hE
    clear hE e1 e2 C3
    go_enter Try.func24, Try.ntmps24
    go_wp2_with fail
    refine (C1.out _ (by go_grown)).mono ?_
    rintro e w1 ⟨rfl, hb1⟩
    have B1 := bvia (show Below w.heap.size w _ by go_grown) hb1
    have HC := Lib.hid (K0.below hb1 K0.lt)
    have a0 : w1.cell? ⟨w.heap.size, 0, none⟩ = some (.int .i64 t) := HC.out.cell 0
    have a1 : w1.cell? ⟨w.heap.size, 1, none⟩ = some (.slice A n c) := HC.out.cell 1
    have q := HC.out.lt
    clear K0 hb1 C1
    go_wp2
    go_ret2
    exact ⟨none, 0, 0, rfl, Rd1.nil _ _ _ _, rfl, Nat.le_refl _, by omega, B1⟩
end Go.Proofs.Ytnijfkidgndbdaa
