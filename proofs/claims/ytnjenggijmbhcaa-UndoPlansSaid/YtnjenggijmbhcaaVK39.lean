/-
  Arguments of the statements read as words: a sheet, a work.
-/
import Derived.Test.YtnjenggijmbhcaaVK1
import Derived.Lib.SmallJoins
import Derived.Deep.Slices
import Derived.Deep.Strs
import Derived.OpenShut
import Derived.Carry
namespace Go.Proofs.Ytnjenggijmbhcaa
open Go.RowKit Go.ChangeShapes Go.WideShapes Go.ChangeAt Go.Joins Go.Deep
theorem maxLen_le : maxLen ≤ 9223372036854775807 := by simp [maxLen]
instance : Inhabited Wk := ⟨⟨0, 0, ⟨#[]⟩⟩⟩
theorem cellsWk : Try.prog.cellsOf 26 = 3 := by kernel_rfl
theorem cellsSheet : Try.prog.cellsOf 24 = 2 := by kernel_rfl
theorem cellsI : Try.prog.cellsOf 3 = 1 := by kernel_rfl
theorem cellsS : Try.prog.cellsOf 9 = 1 := by kernel_rfl
section
variable {H : Type} {enc : TypeId × Value → H} {w : World} {held : Bool}
set_option maxRecDepth 100000 in
/-- the three cells of a work -/
theorem cells_wk {n : Nat} {cs : List Value} {x : DataW H × List MemPlace} {sp : Nat → Bool} {base : Nat} (h : DataW.trod enc Try.prog w base sp held n 26 cs = some x) :
    ∃ y : Wk, cs = [.int .i64 y.kind, .int .i64 y.at_, .string y.word] ∧ y.word.size ≤ 9223372036854775807 := by
  obtain ⟨y0, y1, y2, m, _, hl, h0, h1, h2⟩ := trod_struct3 Try.underlying26 h
  rw [cellsWk] at hl
  match cs, hl with
  | [v0, v1, v2], _ =>
    simp [cellsI, cellsS] at h0 h1 h2
    obtain ⟨k, e0, _, _⟩ := DataW.trod_int Try.underlying3 h0
    obtain ⟨a, e1, _, _⟩ := DataW.trod_int Try.underlying3 h1
    obtain ⟨s, e2, _, hs⟩ := DataW.trod_string Try.underlying9 h2
    simp at e0 e1 e2
    subst e0 e1 e2
    exact ⟨⟨k, a, s⟩, rfl, Nat.le_trans hs maxLen_le⟩
set_option maxRecDepth 100000 in
/-- a cell that reads as a slice of works -/
theorem cell_wks {n : Nat} {v : Value} {x : DataW H × List MemPlace} (h : DataW.trod enc Try.prog w 0 (fun _ => true) held n 22 [v] = some x) :
    ∃ (A : Option Addr) (n c : Nat) (ws : List Wk), v = .slice A n c ∧ n ≤ c ∧ c ≤ 9223372036854775807 ∧ RdW w w.heap.size A ws ∧ ws.length = n ∧ (∀ y ∈ ws, y.word.size ≤ 9223372036854775807) := by
  rcases open_slice Try.underlying22 h with ⟨hv, _⟩ | ⟨a, len, cap, m, q, D, Pl, hv, _, hl, hc, hm, hx, hcs⟩
  · simp at hv
    exact ⟨none, 0, 0, [], hv, Nat.le_refl _, by omega, RdW.nil _ _ _, rfl, by simp⟩
  · simp only [if_true] at hm
    subst hm
    simp at hv
    have each : ∀ i, i < len → ∃ y : Wk, y.word.size ≤ 9223372036854775807 ∧ w.cell? (a.add (i * 3)) = some (.int .i64 y.kind) ∧ w.cell? (a.add (i * 3 + 1)) = some (.int .i64 y.at_) ∧ w.cell? (a.add (i * 3 + 2)) = some (.string y.word) := by
      intro i hi
      obtain ⟨cs', h1, h2⟩ := hcs i (by omega)
      rw [cellsWk] at h1
      obtain ⟨_, hlen, hcell⟩ := World.cells?_some h1
      obtain ⟨y, rfl, hy⟩ := cells_wk h2
      have e0 := hcell 0 (by omega)
      have e1 := hcell 1 (by omega)
      have e2 := hcell 2 (by omega)
      rw [add_add] at e0 e1 e2
      exact ⟨y, hy, by simpa using e0, by simpa using e1, by simpa using e2⟩
    obtain ⟨X, hX⟩ := choose_lt each
    refine ⟨some a, len, m, (List.range len).map X, hv, hl, Nat.le_trans hc maxLen_le, ?_, by simp, ?_⟩
    · intro k x hx
      have hk : k < len := by have := lt_of_get hx; simpa using this
      have : X k = x := by simpa [hk] using hx
      subst this
      obtain ⟨_, c0, c1, c2⟩ := hX k hk
      obtain ⟨b, o, spot⟩ := a
      have z0 := (hX 0 (by omega)).2.1
      rw [Nat.zero_mul] at z0
      have hs : spot = none := by simpa [Addr.add] using World.cell?_spot z0
      subst hs
      simp only [Addr.add_lit] at c0 c1 c2
      refine ⟨b, o, rfl, ?_, c0, by rw [Nat.add_assoc]; exact c1, by rw [Nat.add_assoc]; exact c2⟩
      refine Nat.lt_of_not_le fun hge => ?_
      have : w.cell? ⟨b, o + k * 3, none⟩ = none := by
        simp [World.cell?, Array.getElem?_eq_none hge]
      rw [this] at c0; cases c0
    · intro y hy
      simp at hy
      obtain ⟨k, hk, rfl⟩ := hy
      exact (hX k hk).1
set_option maxRecDepth 100000 in
/-- an argument that is a sheet -/
theorem openSheet {r : Reach} {b0 : Nat} {v : Value} {d : DataW H} {ps : List MemPlace} (hv : Value.okWide Try.prog w r b0 24 v) (h : DataW.Trod enc Try.prog w 0 (fun _ => true) held 24 v d ps) :
    ∃ (p : Int) (A : Option Addr) (n c : Nat) (ws : List Wk), v = .agg #[.int .i64 p, .slice A n c] ∧ n ≤ c ∧ c ≤ 9223372036854775807 ∧ RdW w w.heap.size A ws ∧ ws.length = n ∧ (∀ y ∈ ws, y.word.size ≤ 9223372036854775807) := by
  obtain ⟨c0, c1, y0, y1, m, rfl, rfl, rfl, h0, h1⟩ := open_agg2 Try.underlying24 (by kernel_rfl) cellsSheet hv h
  obtain ⟨p, e0, _, _⟩ := DataW.trod_int Try.underlying3 h0
  simp at e0
  subst e0
  obtain ⟨A, n, c, ws, rfl, h2, h3, h4, h5, h6⟩ := cell_wks h1
  exact ⟨p, A, n, c, ws, rfl, h2, h3, h4, h5, h6⟩
set_option maxRecDepth 100000 in
/-- an argument that is a work -/
theorem openWork {r : Reach} {b0 : Nat} {v : Value} {d : DataW H} {ps : List MemPlace} {sp : Nat → Bool} (hv : Value.okWide Try.prog w r b0 26 v) (h : DataW.Trod enc Try.prog w 0 sp held 26 v d ps) :
    ∃ (k a : Int) (s : ByteArray), v = .agg #[.int .i64 k, .int .i64 a, .string s] ∧ s.size ≤ 9223372036854775807 := by
  obtain ⟨c0, c1, c2, y0, y1, y2, m, rfl, rfl, rfl, h0, h1, h2⟩ := open_agg3 Try.underlying26 (by kernel_rfl) cellsWk hv h
  obtain ⟨k, e0, _, _⟩ := DataW.trod_int Try.underlying3 h0
  obtain ⟨a, e1, _, _⟩ := DataW.trod_int Try.underlying3 h1
  obtain ⟨s, e2, _, hs⟩ := DataW.trod_string Try.underlying9 h2
  simp at e0 e1 e2
  subst e0 e1 e2
  exact ⟨k, a, s, rfl, Nat.le_trans hs maxLen_le⟩
end
end Go.Proofs.Ytnjenggijmbhcaa
