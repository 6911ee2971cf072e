/-
  Plain law of UndoLeast: what must be undone; how many works instructions make.
-/
import Derived.Test.YtnjenggijmbhcaaVK35
import Derived.Test.YtnjenggijmbhcaaVK5
import Derived.Test.YtnjenggijmbhcaaVE1
namespace Go.Proofs.Ytnjenggijmbhcaa
open Go.RowKit
theorem abU_mem (ws : List Wk) (at_ : Nat) (b : Int) (x : Nat) : ∀ d, x ∈ abU ws at_ b (at_ + 1 + d) ↔ x = at_ ∨ (at_ < x ∧ x < at_ + 1 + d ∧ tch ws b (abU ws at_ b x) (atOf ws x) = true)
  | 0 => by
    rw [Nat.add_zero, abU_start, List.mem_singleton]
    constructor
    · exact .inl
    · rintro (h | ⟨h1, h2, _⟩)
      · exact h
      · omega
  | d + 1 => by
    rw [show at_ + 1 + (d + 1) = (at_ + 1 + d) + 1 by omega, abU_succ _ _ _ _ (by omega)]
    have ih := abU_mem ws at_ b x d
    by_cases ht : tch ws b (abU ws at_ b (at_ + 1 + d)) (atOf ws (at_ + 1 + d)) = true
    · rw [if_pos ht, List.mem_append, List.mem_singleton, ih]
      constructor
      · rintro ((h | ⟨h1, h2, h3⟩) | h)
        · exact .inl h
        · exact .inr ⟨h1, by omega, h3⟩
        · subst h; exact .inr ⟨by omega, by omega, ht⟩
      · rintro (h | ⟨h1, h2, h3⟩)
        · exact .inl (.inl h)
        · by_cases e : x = at_ + 1 + d
          · exact .inr e
          · exact .inl (.inr ⟨h1, by omega, h3⟩)
    · rw [if_neg ht, ih]
      constructor
      · rintro (h | ⟨h1, h2, h3⟩)
        · exact .inl h
        · exact .inr ⟨h1, by omega, h3⟩
      · rintro (h | ⟨h1, h2, h3⟩)
        · exact .inl h
        · by_cases e : x = at_ + 1 + d
          · subst e; exact absurd h3 ht
          · exact .inr ⟨h1, by omega, h3⟩
theorem abU_mem' {ws : List Wk} {at_ : Nat} {b : Int} {j x : Nat} (h : at_ + 1 ≤ j) : x ∈ abU ws at_ b j ↔ x = at_ ∨ (at_ < x ∧ x < j ∧ tch ws b (abU ws at_ b x) (atOf ws x) = true) := by
  obtain ⟨d, rfl⟩ : ∃ d, j = at_ + 1 + d := ⟨j - (at_ + 1), by omega⟩
  exact abU_mem ws at_ b x d
theorem abU_sub {ws : List Wk} {at_ : Nat} {b : Int} {j n x : Nat} (h : at_ + 1 ≤ j) (hn : j ≤ n) : x ∈ abU ws at_ b j ↔ x < j ∧ x ∈ abU ws at_ b n := by
  rw [abU_mem' h, abU_mem' (Nat.le_trans h hn)]
  constructor
  · rintro (e | ⟨h1, h2, h3⟩)
    · exact ⟨by omega, .inl e⟩
    · exact ⟨h2, .inr ⟨h1, by omega, h3⟩⟩
  · rintro ⟨h0, e | ⟨h1, h2, h3⟩⟩
    · exact .inl e
    · exact .inr ⟨h1, h0, h3⟩
theorem tch_iff {ws : List Wk} {b : Int} {L : List Nat} {a : Int} : tch ws b L a = true ↔ touch a b = true ∨ ∃ k, k ∈ L ∧ touch a (atOf ws k) = true := by
  unfold tch
  rw [Bool.or_eq_true, List.any_eq_true]
/-- what must be in the set with the works f -/
def must28 (ws : List Wk) (at_ : Nat) (b : Int) (f : Nat → Prop) (i : Nat) : Prop := i = at_ ∨ (at_ < i ∧ touch (atOf ws i) b = true) ∨ ∃ k, k < i ∧ f k ∧ touch (atOf ws k) (atOf ws i) = true
theorem must_in {ws : List Wk} {at_ n i : Nat} {b : Int} (hat : at_ < n) (hi : i < n) (h : must28 ws at_ b (fun k => k ∈ abU ws at_ b n) i) : i ∈ abU ws at_ b n := by
  rw [abU_mem' hat]
  rcases h with h | ⟨h1, h2⟩ | ⟨k, h1, h2, h3⟩
  · exact .inl h
  · exact .inr ⟨h1, hi, tch_iff.2 (.inl h2)⟩
  · have hk : at_ ≤ k := by
      rcases (abU_mem' hat).1 h2 with e | ⟨e, _⟩ <;> omega
    exact .inr ⟨by omega, hi, tch_iff.2 (.inr ⟨k, (abU_sub (by omega) (by omega)).2 ⟨h1, h2⟩, by rw [touch_symm]; exact h3⟩)⟩
theorem in_must {ws : List Wk} {at_ n : Nat} {b : Int} {f : Nat → Prop} (hat : at_ < n) (h : ∀ i, i < n → must28 ws at_ b f i → f i) : ∀ i, i ∈ abU ws at_ b n → f i := fun i hi => by
  induction i using Nat.strongRecOn with
  | _ i ih =>
    have hin : i < n := abU_lt ws at_ b n hat i hi
    rcases (abU_mem' hat).1 hi with e | ⟨h1, _, h3⟩
    · exact h i hin (.inl e)
    · rcases tch_iff.1 h3 with h4 | ⟨k, h4, h5⟩
      · exact h i hin (.inr (.inl ⟨h1, h4⟩))
      · obtain ⟨h6, h7⟩ := (abU_sub (show at_ + 1 ≤ i by omega) (show i ≤ n by omega)).1 h4
        exact h i hin (.inr (.inr ⟨k, h6, ih k h6 h7, by rw [touch_symm]; exact h5⟩))
theorem abU_sorted (ws : List Wk) (at_ : Nat) (b : Int) : ∀ d, (abU ws at_ b (at_ + 1 + d)).Pairwise (· < ·)
  | 0 => by rw [Nat.add_zero, abU_start]; exact List.pairwise_singleton _ _
  | d + 1 => by
    rw [show at_ + 1 + (d + 1) = (at_ + 1 + d) + 1 by omega, abU_succ _ _ _ _ (by omega)]
    split
    · rw [List.pairwise_append]
      refine ⟨abU_sorted ws at_ b d, List.pairwise_singleton _ _, fun x hx y hy => ?_⟩
      rw [List.mem_singleton] at hy
      subst hy
      exact abU_lt ws at_ b _ (by omega) x hx
    · exact abU_sorted ws at_ b d
theorem abU_up {ws : List Wk} {at_ n : Nat} {b : Int} (hat : at_ < n) {i j x y : Nat} (hx : (abU ws at_ b n)[i]? = some x) (hy : (abU ws at_ b n)[j]? = some y) (hij : i < j) : x < y := by
  obtain ⟨d, rfl⟩ : ∃ d, n = at_ + 1 + d := ⟨n - (at_ + 1), by omega⟩
  have h := abU_sorted ws at_ b d
  obtain ⟨h1, e1⟩ := List.getElem?_eq_some_iff.1 hx
  obtain ⟨h2, e2⟩ := List.getElem?_eq_some_iff.1 hy
  rw [← e1, ← e2]
  exact List.pairwise_iff_getElem.1 h i j h1 h2 hij
/-- the order in which the quick instructions make the works -/
def ordQ (ws : List Wk) (k m : Nat) : Nat → (Nat → Bool) → List Nat
  | 0, _ => []
  | f + 1, D => if und ws D = 0 then [] else sweep ws (bstQ ws m D k) m D ++ ordQ ws k m f (mkAll D (sweep ws (bstQ ws m D k) m D))
theorem ordQ_zero {ws : List Wk} {k m f : Nat} {D : Nat → Bool} (h : und ws D = 0) : ordQ ws k m f D = [] := by
  cases f with
  | zero => rfl
  | succ f => unfold ordQ; rw [if_pos h]
theorem ordQ_succ {ws : List Wk} {k m f : Nat} {D : Nat → Bool} (h : und ws D ≠ 0) : ordQ ws k m (f + 1) D = sweep ws (bstQ ws m D k) m D ++ ordQ ws k m f (mkAll D (sweep ws (bstQ ws m D k) m D)) := by
  conv => lhs; unfold ordQ
  rw [if_neg h]
theorem stepOf_kind (x : Wk) : (stepOf x).kind ≠ 1 := by unfold stepOf; split <;> simp
def stepAt (ws : List Wk) (i : Nat) : Wk := match ws[i]? with | some x => stepOf x | none => ⟨0, 0, ⟨#[]⟩⟩
theorem stepAt_kind (ws : List Wk) (i : Nat) : (stepAt ws i).kind ≠ 1 := by
  unfold stepAt
  split
  · exact stepOf_kind _
  · simp
theorem wksOf_steps (ws : List Wk) (l : List Nat) : wksOf (stepsAt ws l) = l.map fun i => workOf (stepAt ws i) := by
  induction l with
  | nil => rfl
  | cons i l ih =>
    show wksOf (stepAt ws i :: stepsAt ws l) = _
    rw [show stepAt ws i :: stepsAt ws l = [stepAt ws i] ++ stepsAt ws l from rfl, wksOf_app, wksOf_work (stepAt_kind ws i), ih]; rfl
theorem wksOf_qkF (ws : List Wk) (k m : Nat) : ∀ f D, wksOf (qkF ws k m f D) = (ordQ ws k m f D).map fun i => workOf (stepAt ws i)
  | 0, D => rfl
  | f + 1, D => by
    by_cases h : und ws D = 0
    · rw [qkF_zero h, ordQ_zero h]; rfl
    · rw [qkF_succ h, ordQ_succ h, List.map_append, wksOf_app, wksOf_qkF ws k m f, show ∀ (a : Wk) (l : List Wk), a :: l = [a] ++ l from fun _ _ => rfl, wksOf_app, wksOf_reach rfl, wksOf_steps, List.nil_append]
theorem reach_wks (l : List Wk) : reachN l + (wksOf l).length = l.length := by
  unfold reachN wksOf
  rw [List.length_map]
  induction l with
  | nil => rfl
  | cons x l ih =>
    rw [List.filter_cons, List.filter_cons, List.length_cons]
    by_cases h : (x.kind == 1) = true
    · rw [if_pos h, if_neg (by rw [h]; decide), List.length_cons]; omega
    · rw [if_neg h, if_pos (by simpa using h), List.length_cons]; omega
theorem ordQ_len {ws : List Wk} {k m : Nat} (hm : 1 ≤ m) (hk : 1 ≤ k) (hr : ∀ i, i < ws.length → 0 ≤ wat ws i ∧ wat ws i < (k : Int) - 1 + m) : ∀ f D, und ws D ≤ f → (ordQ ws k m f D).length = und ws D
  | 0, D, h => by
    rw [ordQ_zero (by omega)]
    show 0 = _
    omega
  | f + 1, D, h => by
    by_cases h0 : und ws D = 0
    · rw [ordQ_zero h0, h0]; rfl
    · have hp := best_pos hm hk hr (by omega : 0 < und ws D)
      have hs := sweep_und (ws := ws) (h := bstQ ws m D k) (m := m) (und ws D) (D := D) (Nat.le_refl _)
      unfold much at hp
      rw [ordQ_succ h0, List.length_append, ordQ_len hm hk hr f _ (by omega)]
      omega
theorem quickP_len {p s : Nat} {ws : List Wk} (hs : 2 ≤ s ∧ s ≤ p) (hr : ∀ x ∈ ws, 0 ≤ x.at_ ∧ x.at_ ≤ (p : Int) - 2) : reachN (quickP p s ws) + ws.length = (quickP p s ws).length := by
  have h1 := reach_wks (quickP p s ws)
  have h2 : (wksOf (quickP p s ws)).length = ws.length := by
    unfold quickP
    rw [wksOf_qkF, List.length_map, ordQ_len (by omega) (by omega) (fun i hi => ?_) _ _ (by rw [und_none]; exact Nat.le_refl _), und_none]
    obtain ⟨x, hx⟩ := get_of_lt hi
    have := hr x (mem_of_get hx)
    rw [wat_get hx]
    omega
  omega
theorem qkF_le {ws : List Wk} {k m : Nat} (hm : 1 ≤ m) (hk : 1 ≤ k) (hr : ∀ i, i < ws.length → 0 ≤ wat ws i ∧ wat ws i < (k : Int) - 1 + m) : ∀ f D, (qkF ws k m f D).length ≤ 2 * und ws D
  | 0, D => by show 0 ≤ _; omega
  | f + 1, D => by
    by_cases h0 : und ws D = 0
    · rw [qkF_zero h0, h0]; exact Nat.le_refl _
    · have hp := best_pos hm hk hr (by omega : 0 < und ws D)
      have hs := sweep_und (ws := ws) (h := bstQ ws m D k) (m := m) (und ws D) (D := D) (Nat.le_refl _)
      have hi := qkF_le hm hk hr f (mkAll D (sweep ws (bstQ ws m D k) m D))
      unfold much at hp
      rw [qkF_succ h0, List.length_append, List.length_cons]
      have : (stepsAt ws (sweep ws (bstQ ws m D k) m D)).length = (sweep ws (bstQ ws m D k) m D).length := by unfold stepsAt; rw [List.length_map]
      omega
theorem quickP_le {p s : Nat} {ws : List Wk} (hs : 2 ≤ s ∧ s ≤ p) (hr : ∀ x ∈ ws, 0 ≤ x.at_ ∧ x.at_ ≤ (p : Int) - 2) : (quickP p s ws).length ≤ 2 * ws.length := by
  have h := qkF_le (ws := ws) (k := p - s + 1) (m := s - 1) (by omega) (by omega) (fun i hi => ?_) ws.length noneD
  · rw [und_none] at h; exact h
  · obtain ⟨x, hx⟩ := get_of_lt hi
    have := hr x (mem_of_get hx)
    rw [wat_get hx]
    omega
theorem wkBad_at {p : Int} {x : Wk} (h : wkBad p x = false) : 0 ≤ x.at_ ∧ x.at_ ≤ p - 2 := by
  obtain ⟨_, h1, h2, _⟩ := bad_at h
  omega
theorem plan_lens {p span at_ : Int} {ws : List Wk} {x : Wk} (h : plE p span ws at_ x = 0) :
    reachN (plU p span ws at_ x) + (plL ws at_ x).length = (plU p span ws at_ x).length ∧ reachN (plR p span ws at_ x) + (plL ws at_ x).length = (plR p span ws at_ x).length := by
  obtain ⟨h1, h2⟩ := plE_zero h
  obtain ⟨z1, z2, z3, z4⟩ := askE_zero h1
  have v1 := schk_zero z1
  have v2 := schk_zero z4
  have hs : 2 ≤ span ∧ span ≤ 8 ∧ span ≤ p := of_decide_eq_true h2
  have hat : at_.toNat < ws.length := by omega
  have hLlt : ∀ j ∈ plL ws at_ x, j < ws.length := fun j hj => abU_lt ws at_.toNat x.at_ ws.length hat j hj
  have hLl : (plL ws at_ x).length ≤ 400 := by have := abU_len ws at_.toNat x.at_ ws.length hat; have := v1.len; unfold plL; omega
  have hLp : 0 < (plL ws at_ x).length := abU_pos _ _ _ _
  have k1 := quickP_len (p := p.toNat) (s := span.toNat) (ws := planU ws (plL ws at_ x)) (by omega) (fun y hy => by have := wkBad_at ((planU_ok v1 hLlt hLl).good y hy); omega)
  have k2 := quickP_len (p := p.toNat) (s := span.toNat) (ws := planR x ws (plL ws at_ x)) (by omega) (fun y hy => by have := wkBad_at ((planR_ok v1 v2 hLlt hLp hLl).good y hy); omega)
  rw [planU_len] at k1
  rw [planR_len _ _ hLp] at k2
  unfold plU plR
  rw [if_pos h, if_pos h]
  exact ⟨k1, k2⟩
theorem plan_les {p span at_ : Int} {ws : List Wk} {x : Wk} (h : plE p span ws at_ x = 0) :
    (plU p span ws at_ x).length ≤ 800 ∧ (plR p span ws at_ x).length ≤ 800 := by
  obtain ⟨h1, h2⟩ := plE_zero h
  obtain ⟨z1, z2, z3, z4⟩ := askE_zero h1
  have v1 := schk_zero z1
  have v2 := schk_zero z4
  have hs : 2 ≤ span ∧ span ≤ 8 ∧ span ≤ p := of_decide_eq_true h2
  have hat : at_.toNat < ws.length := by omega
  have hLlt : ∀ j ∈ plL ws at_ x, j < ws.length := fun j hj => abU_lt ws at_.toNat x.at_ ws.length hat j hj
  have hLl : (plL ws at_ x).length ≤ 400 := by have := abU_len ws at_.toNat x.at_ ws.length hat; have := v1.len; unfold plL; omega
  have hLp : 0 < (plL ws at_ x).length := abU_pos _ _ _ _
  have k1 := quickP_le (p := p.toNat) (s := span.toNat) (ws := planU ws (plL ws at_ x)) (by omega) (fun y hy => by have := wkBad_at ((planU_ok v1 hLlt hLl).good y hy); omega)
  have k2 := quickP_le (p := p.toNat) (s := span.toNat) (ws := planR x ws (plL ws at_ x)) (by omega) (fun y hy => by have := wkBad_at ((planR_ok v1 v2 hLlt hLp hLl).good y hy); omega)
  rw [planU_len] at k1
  rw [planR_len _ _ hLp] at k2
  unfold plU plR
  rw [if_pos h, if_pos h]
  exact ⟨by omega, by omega⟩
end Go.Proofs.Ytnjenggijmbhcaa
