/-
  Plain law: the sheet that instructions make is valid.
-/
import Derived.Test.YtnjenggijmbhcaaVK5
import Derived.Test.YtnjenggijmbhcaaVE1
namespace Go.Proofs.Ytnjenggijmbhcaa
open Go.RowKit
theorem wkBad_ok {p k a : Int} {d : ByteArray} (h1 : k = 1 ∨ (k = 2 ∧ d.size = 0)) (h2 : 0 ≤ a) (h3 : a ≤ p - 2) : wkBad p ⟨k, a, d⟩ = false := by
  unfold wkBad
  simp only [Bool.or_eq_false_iff, Bool.and_eq_false_iff, decide_eq_false_iff_not, bne_eq_false_iff_eq, beq_eq_false_iff_ne, ne_eq]
  refine ⟨⟨⟨?_, by omega⟩, by omega⟩, ?_⟩
  · rcases h1 with h | ⟨h, _⟩
    · exact .inl h
    · exact .inr h
  · rcases h1 with h | ⟨_, h⟩
    · exact .inl (by omega)
    · exact .inr h
theorem work_good {p s h : Int} {m : Nat} {x : Wk} (h1 : doE p s h m x = 0) (h2 : x.kind ≠ 1) : wkBad p (workOf x) = false ∧ (workOf x).word.size ≤ 16 ∧ wOk (workOf x).word = true ∧ m < 400 := by
  obtain ⟨a1, a2, a3, a4, _, a6⟩ := doE_at h1
  obtain ⟨b1, b2⟩ := wchk_zero a2
  obtain ⟨_, b4⟩ := a6 h2
  unfold workOf
  split
  · exact ⟨wkBad_ok (.inr ⟨rfl, rfl⟩) a3 a4, Nat.zero_le 16, rfl, b4⟩
  · exact ⟨wkBad_ok (.inl rfl) a3 a4, b1, b2, b4⟩
theorem wksOf_cons_reach {x : Wk} (h : x.kind = 1) (l : List Wk) : wksOf (x :: l) = wksOf l := by
  rw [show x :: l = [x] ++ l from rfl, wksOf_app, wksOf_reach h]; rfl
theorem wksOf_cons_work {x : Wk} (h : x.kind ≠ 1) (l : List Wk) : wksOf (x :: l) = workOf x :: wksOf l := by
  rw [show x :: l = [x] ++ l from rfl, wksOf_app, wksOf_work h]; rfl
theorem shE_good {p s : Int} : ∀ (l : List Wk) (h : Int) (m : Nat), shE p s h m l = 0 → m ≤ 400 → m + (wksOf l).length ≤ 400 ∧ ∀ x ∈ wksOf l, wkBad p x = false ∧ x.word.size ≤ 16 ∧ wOk x.word = true
  | [], _, m, _, hm => ⟨by simpa [wksOf] using hm, fun x hx => by simp [wksOf] at hx⟩
  | x :: l, h, m, e, hm => by
    have hd : doE p s h m x = 0 := by
      refine Decidable.byContradiction fun hne => ?_
      rw [shE_err hne] at e
      exact hne e
    by_cases k1 : x.kind = 1
    · rw [shE_reach hd k1] at e
      rw [wksOf_cons_reach k1]
      exact shE_good l _ m e hm
    · rw [shE_work hd k1] at e
      obtain ⟨g1, g2, g3, g4⟩ := work_good hd k1
      obtain ⟨i1, i2⟩ := shE_good l _ (m + 1) e (by omega)
      rw [wksOf_cons_work k1]
      refine ⟨by rw [List.length_cons]; omega, fun y hy => ?_⟩
      rcases List.mem_cons.1 hy with e1 | e1
      · subst e1; exact ⟨g1, g2, g3⟩
      · exact i2 y e1
theorem sheetE_zero {p s : Int} {l : List Wk} (h : sheetE p s l = 0) : 2 ≤ p ∧ p ≤ 24 ∧ spB p s = true ∧ l.length ≤ 1000 ∧ shE p s (-1) 0 l = 0 := by
  unfold sheetE at h
  by_cases h1 : handsE p s = 0
  · rw [if_neg (by rw [h1]; simp)] at h
    obtain ⟨a, b, c⟩ := handsE_ok h1
    split at h
    · cases h
    · exact ⟨a, b, c, by omega, h⟩
  · rw [if_pos h1] at h; cases h
theorem sheet_ok {p s : Int} {l : List Wk} (h : sheetE p s l = 0) : SOk p (wksOf l) := by
  obtain ⟨h1, h2, h3, h4, h5⟩ := sheetE_zero h
  obtain ⟨g1, g2⟩ := shE_good l _ 0 h5 (by omega)
  exact ⟨h2, h1, by omega, fun x hx => (g2 x hx).2.1, fun x hx => (g2 x hx).1, fun x hx => (g2 x hx).2.2⟩
end Go.Proofs.Ytnjenggijmbhcaa
