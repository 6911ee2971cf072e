/-
  Contracts of chapter 17: Follow and Meet of both packages.
-/
import Derived.Test.YtnjenggijmbhcaaVK17
import Derived.Deep.Cut
namespace Go.Proofs.Ytnjenggijmbhcaa
open Go.RowKit
theorem rdI_lits (w : World) (l : List Int) : RdI (w.alloc (.cells (l.map vInt).toArray 3)) (w.alloc (.cells (l.map vInt).toArray 3)).heap.size (some ⟨w.heap.size, 0, none⟩) l := fun k x hx => by
  refine ⟨w.heap.size, 0, rfl, by simp, ?_⟩
  rw [Nat.zero_add, (Has.new rfl).cell, List.getElem?_map, hx]; rfl
theorem ask_one (t : Int) (xs ps : List Q4) (a : Int) : askET t xs ps [a] = if ckE t xs ps = 0 then (if inT t a = true then 0 else 2) else ckE t xs ps := by
  unfold askET
  have : thTo t [a] [a].length = inT t a := by simp [thTo]
  rw [this]
theorem ask_two (t : Int) (xs ps : List Q4) (a b : Int) : askET t xs ps [a, b] = if ckE t xs ps = 0 then (if inT t a = true ∧ inT t b = true ∧ a ≠ b then 0 else 2) else ckE t xs ps := by
  unfold askET
  have : (thTo t [a, b] [a, b].length = true) ↔ (inT t a = true ∧ inT t b = true ∧ a ≠ b) := by
    simp [thTo]
    intro _ _
    exact ⟨fun h e => h e.symm, fun h e => h e.symm⟩
  simp only [this]
theorem no_one {x : Q4} {a b : Int} (h1 : ¬ x.c = a) (h3 : ¬ x.d = a) : [a, b].all (ofP x) = false := by
  have q1 : ofP x a = false := by unfold ofP; simp; exact ⟨fun h => h1 h.symm, fun h => h3 h.symm⟩
  simp [q1]
theorem no_two {x : Q4} {a b : Int} (hab : a ≠ b) (h1 : ¬ x.c = a) (h2 : ¬ x.c = b) : [a, b].all (ofP x) = false := by
  by_cases h3 : x.d = a
  · have q1 : ofP x b = false := by unfold ofP; simp; exact ⟨fun h => h2 h.symm, fun h => hab (h3.symm.trans h.symm)⟩
    simp [q1]
  · exact no_one h1 h3
end Go.Proofs.Ytnjenggijmbhcaa
