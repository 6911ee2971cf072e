/-
  An argument of the statements read as words: a list of ints, beside a sheet.
-/
import Derived.Test.YtpljaoagiaijiaaArg
namespace Go.Proofs.Ytpljaoagiaijiaa
open Go.RowKit Go.ChangeShapes Go.WideShapes Go.ChangeAt Go.Joins Go.Deep
section
variable {H : Type} {enc : TypeId × Value → H} {w : World} {held : Bool}
set_option maxRecDepth 100000 in
/-- an argument that is a list of ints -/
theorem openInts {r : Reach} {b0 : Nat} {v : Value} {d : DataW H} {ps : List MemPlace} (hv : Value.okWide Try.prog w r b0 35 v) (h : DataW.Trod enc Try.prog w 0 (fun _ => true) held 35 v d ps) :
    ∃ (A : Option Addr) (n c : Nat) (xs : List Int), v = .slice A n c ∧ n ≤ c ∧ c ≤ 9223372036854775807 ∧ RdI w w.heap.size A xs ∧ xs.length = n := by
  obtain ⟨A, n, c, rfl⟩ := okWide_slice Try.underlying35 hv
  obtain ⟨fuel, hf⟩ := h
  simp only [Value.cells] at hf
  rcases open_slice1 Try.underlying35 cellsI hf with ⟨hv', _⟩ | ⟨a, len, cap, m, q, V, D, Pl, hv', _, hl, hc', hm, hx, hcs⟩
  · simp at hv'
    obtain ⟨rfl, rfl, rfl⟩ := hv'
    exact ⟨none, 0, 0, [], rfl, Nat.le_refl _, by omega, Rd1.nil _ _ _ _, rfl⟩
  · simp only [if_true] at hm
    subst hm
    simp at hv'
    obtain ⟨rfl, rfl, rfl⟩ := hv'
    have each : ∀ i, i < n → ∃ y : Int, w.cell? (a.add i) = some (.int .i64 y) := by
      intro i hi
      obtain ⟨h1, h2⟩ := hcs i (by omega)
      obtain ⟨y, e0, _, _⟩ := DataW.trod_int Try.underlying3 h2
      simp at e0
      exact ⟨y, by rw [h1, e0]⟩
    obtain ⟨X, hX⟩ := choose_lt each
    refine ⟨some a, n, c, (List.range n).map X, rfl, hl, Nat.le_trans hc' maxLen_le, ?_, by simp⟩
    intro k x hx
    have hk : k < n := by have := lt_of_get hx; simpa using this
    have : X k = x := by simpa [hk] using hx
    subst this
    have c0 := hX k hk
    obtain ⟨b, o, spot⟩ := a
    have z0 := hX 0 (by omega)
    have hs : spot = none := by simpa [Addr.add] using World.cell?_spot z0
    subst hs
    simp only [Addr.add_lit] at c0
    refine ⟨b, o, rfl, ?_, c0⟩
    refine Nat.lt_of_not_le fun hge => ?_
    have : w.cell? ⟨b, o + k, none⟩ = none := by
      simp [World.cell?, Array.getElem?_eq_none hge]
    rw [this] at c0; cases c0
end
end Go.Proofs.Ytpljaoagiaijiaa
