/-
  Arguments of the statements of chapter 21 read as words: a list of bytes.
-/
import Derived.Test.YtnijfkidgndbdaaArgC
import Derived.Test.YtnijfkidgndbdaaRen
namespace Go.Proofs.Ytnijfkidgndbdaa
open Go.RowKit Go.ChangeShapes Go.WideShapes Go.ChangeAt Go.Joins Go.Deep
theorem cellsY : Try.prog.cellsOf 5 = 1 := by kernel_rfl
theorem byteBounds {n : Int} (h : (Lit.int .u8 n).wf = true) : 0 ≤ n ∧ n ≤ 255 := by
  simp [Lit.wf, IntKind.min, IntKind.max, IntKind.signed, IntKind.bits] at h
  omega
section
variable {H : Type} {enc : TypeId × Value → H} {w : World} {held : Bool}
set_option maxRecDepth 100000 in
/-- an argument that is a list of bytes -/
theorem openBytes {r : Reach} {b0 : Nat} {v : Value} {d : DataW H} {ps : List MemPlace} (hv : Value.okWide Try.prog w r b0 52 v) (h : DataW.Trod enc Try.prog w 0 (fun _ => true) held 52 v d ps) :
    ∃ (A : Option Addr) (n c : Nat) (xs : List Int), v = .slice A n c ∧ n ≤ c ∧ c ≤ 9223372036854775807 ∧ RdY w w.heap.size A xs ∧ xs.length = n ∧ (∀ y ∈ xs, 0 ≤ y ∧ y ≤ 255) := by
  obtain ⟨A, n, c, rfl⟩ := okWide_slice Try.underlying52 hv
  obtain ⟨fuel, hf⟩ := h
  simp only [Value.cells] at hf
  rcases open_slice1 Try.underlying52 cellsY hf with ⟨hv', _⟩ | ⟨a, len, cap, m, q, V, D, Pl, hv', _, hl, hc', hm, hx, hcs⟩
  · simp at hv'
    obtain ⟨rfl, rfl, rfl⟩ := hv'
    exact ⟨none, 0, 0, [], rfl, Nat.le_refl _, by omega, Rd1.nil _ _ _ _, rfl, by simp⟩
  · simp only [if_true] at hm
    subst hm
    simp at hv'
    obtain ⟨rfl, rfl, rfl⟩ := hv'
    have each : ∀ i, i < n → ∃ y : Int, w.cell? (a.add i) = some (.int .u8 y) ∧ 0 ≤ y ∧ y ≤ 255 := by
      intro i hi
      obtain ⟨h1, h2⟩ := hcs i (by omega)
      obtain ⟨y, e0, _, wf⟩ := DataW.trod_int Try.underlying5 h2
      simp at e0
      exact ⟨y, by rw [h1, e0], (byteBounds wf).1, (byteBounds wf).2⟩
    obtain ⟨X, hX⟩ := choose_lt each
    refine ⟨some a, n, c, (List.range n).map X, rfl, hl, Nat.le_trans hc' maxLen_le, ?_, by simp, ?_⟩
    · intro k x hx
      have hk : k < n := by have := lt_of_get hx; simpa using this
      have : X k = x := by simpa [hk] using hx
      subst this
      have c0 := (hX k hk).1
      obtain ⟨b, o, spot⟩ := a
      have z0 := (hX 0 (by omega)).1
      have hs : spot = none := by simpa [Addr.add] using World.cell?_spot z0
      subst hs
      simp only [Addr.add_lit] at c0
      refine ⟨b, o, rfl, ?_, c0⟩
      refine Nat.lt_of_not_le fun hge => ?_
      have : w.cell? ⟨b, o + k, none⟩ = none := by
        simp [World.cell?, Array.getElem?_eq_none hge]
      rw [this] at c0; cases c0
    · intro y hy
      obtain ⟨k, hk, rfl⟩ := List.mem_map.1 hy
      exact (hX k (by simpa using hk)).2
end
end Go.Proofs.Ytnijfkidgndbdaa
