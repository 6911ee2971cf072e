/-
  Arguments of the statements of chapter 21 read as words: a cloth, a list of ints.
-/
import Derived.Test.YtpljaoagiaijiaaQ
import Derived.Lib.SmallJoins
import Derived.Deep.Slices
import Derived.Deep.Strs
import Derived.OpenShut
import Derived.Carry
namespace Go.Proofs.Ytpljaoagiaijiaa
open Go.RowKit Go.ChangeShapes Go.WideShapes Go.ChangeAt Go.Joins Go.Deep
theorem maxLen_le : maxLen ≤ 9223372036854775807 := by simp [maxLen]
instance : Inhabited Q4 := ⟨⟨0, 0, 0, 0⟩⟩
theorem cellsCross : Try.prog.cellsOf 70 = 4 := by kernel_rfl
theorem cellsPin : Try.prog.cellsOf 72 = 4 := by kernel_rfl
theorem cellsCloth : Try.prog.cellsOf 30 = 3 := by kernel_rfl
theorem cellsI : Try.prog.cellsOf 3 = 1 := by kernel_rfl
section
variable {H : Type} {enc : TypeId × Value → H} {w : World} {held : Bool}
set_option maxRecDepth 100000 in
theorem cells_q4 {T : TypeId} {f0 f1 f2 f3 : Field} (hT : Try.prog.underlying T = some (.struct #[f0, f1, f2, f3])) (hc : Try.prog.cellsOf T = 4) (h0 : f0.type = 3) (h1 : f1.type = 3) (h2 : f2.type = 3) (h3 : f3.type = 3) (o0 : f0.offset = 0) (o1 : f1.offset = 1) (o2 : f2.offset = 2) (o3 : f3.offset = 3)
    {n : Nat} {cs : List Value} {x : DataW H × List MemPlace} {sp : Nat → Bool} {base : Nat} (h : DataW.trod enc Try.prog w base sp held n T cs = some x) :
    ∃ y : Q4, cs = [.int .i64 y.a, .int .i64 y.b, .int .i64 y.c, .int .i64 y.d] := by
  obtain ⟨y0, y1, y2, y3, m, _, hl, g0, g1, g2, g3⟩ := trod_struct4 hT h
  rw [hc] at hl
  rw [h0] at g0
  rw [h1] at g1
  rw [h2] at g2
  rw [h3] at g3
  match cs, hl with
  | [v0, v1, v2, v3], _ =>
    rw [o0] at g0
    rw [o1] at g1
    rw [o2] at g2
    rw [o3] at g3
    simp [cellsI] at g0 g1 g2 g3
    obtain ⟨a, e0, _, _⟩ := DataW.trod_int Try.underlying3 g0
    obtain ⟨b, e1, _, _⟩ := DataW.trod_int Try.underlying3 g1
    obtain ⟨c, e2, _, _⟩ := DataW.trod_int Try.underlying3 g2
    obtain ⟨d, e3, _, _⟩ := DataW.trod_int Try.underlying3 g3
    simp at e0 e1 e2 e3
    subst e0 e1 e2 e3
    exact ⟨⟨a, b, c, d⟩, rfl⟩
set_option maxRecDepth 100000 in
/-- a cell that reads as a slice of crossings or pins -/
theorem cell_q4s {T S : TypeId} {f0 f1 f2 f3 : Field} (hS : Try.prog.underlying S = some (.slice T)) (hT : Try.prog.underlying T = some (.struct #[f0, f1, f2, f3])) (hc : Try.prog.cellsOf T = 4) (h0 : f0.type = 3) (h1 : f1.type = 3) (h2 : f2.type = 3) (h3 : f3.type = 3) (o0 : f0.offset = 0) (o1 : f1.offset = 1) (o2 : f2.offset = 2) (o3 : f3.offset = 3)
    {n : Nat} {v : Value} {x : DataW H × List MemPlace} (h : DataW.trod enc Try.prog w 0 (fun _ => true) held n S [v] = some x) :
    ∃ (A : Option Addr) (n c : Nat) (ws : List Q4), v = .slice A n c ∧ n ≤ c ∧ c ≤ 9223372036854775807 ∧ RdQ w w.heap.size A ws ∧ ws.length = n := by
  rcases open_slice hS h with ⟨hv, _⟩ | ⟨a, len, cap, m, q, D, Pl, hv, _, hl, hc', hm, hx, hcs⟩
  · simp at hv
    exact ⟨none, 0, 0, [], hv, Nat.le_refl _, by omega, RdQ.nil _ _ _, rfl⟩
  · simp only [if_true] at hm
    subst hm
    simp at hv
    have each : ∀ i, i < len → ∃ y : Q4, w.cell? (a.add (i * 4)) = some (.int .i64 y.a) ∧ w.cell? (a.add (i * 4 + 1)) = some (.int .i64 y.b) ∧ w.cell? (a.add (i * 4 + 2)) = some (.int .i64 y.c) ∧ w.cell? (a.add (i * 4 + 3)) = some (.int .i64 y.d) := by
      intro i hi
      obtain ⟨cs', g1, g2⟩ := hcs i (by omega)
      rw [hc] at g1
      obtain ⟨_, hlen, hcell⟩ := World.cells?_some g1
      obtain ⟨y, rfl⟩ := cells_q4 hT hc h0 h1 h2 h3 o0 o1 o2 o3 g2
      have e0 := hcell 0 (by omega)
      have e1 := hcell 1 (by omega)
      have e2 := hcell 2 (by omega)
      have e3 := hcell 3 (by omega)
      rw [add_add] at e0 e1 e2 e3
      exact ⟨y, by simpa using e0, by simpa using e1, by simpa using e2, by simpa using e3⟩
    obtain ⟨X, hX⟩ := choose_lt each
    refine ⟨some a, len, m, (List.range len).map X, hv, hl, Nat.le_trans hc' maxLen_le, ?_, by simp⟩
    intro k x hx
    have hk : k < len := by have := lt_of_get hx; simpa using this
    have : X k = x := by simpa [hk] using hx
    subst this
    obtain ⟨c0, c1, c2, c3⟩ := hX k hk
    obtain ⟨b, o, spot⟩ := a
    have z0 := (hX 0 (by omega)).1
    rw [Nat.zero_mul] at z0
    have hs : spot = none := by simpa [Addr.add] using World.cell?_spot z0
    subst hs
    simp only [Addr.add_lit] at c0 c1 c2 c3
    refine ⟨b, o, rfl, ?_, c0, by rw [Nat.add_assoc]; exact c1, by rw [Nat.add_assoc]; exact c2, by rw [Nat.add_assoc]; exact c3⟩
    refine Nat.lt_of_not_le fun hge => ?_
    have : w.cell? ⟨b, o + k * 4, none⟩ = none := by
      simp [World.cell?, Array.getElem?_eq_none hge]
    rw [this] at c0; cases c0
set_option maxRecDepth 100000 in
/-- an argument that is a cloth -/
theorem openCloth {r : Reach} {b0 : Nat} {v : Value} {d : DataW H} {ps : List MemPlace} (hv : Value.okWide Try.prog w r b0 30 v) (h : DataW.Trod enc Try.prog w 0 (fun _ => true) held 30 v d ps) :
    ∃ (t : Int) (A B : Option Addr) (n c m d : Nat) (xs ys : List Q4), v = .agg #[.int .i64 t, .slice A n c, .slice B m d] ∧ n ≤ c ∧ c ≤ 9223372036854775807 ∧ m ≤ d ∧ d ≤ 9223372036854775807 ∧ RdQ w w.heap.size A xs ∧ xs.length = n ∧ RdQ w w.heap.size B ys ∧ ys.length = m ∧ -9223372036854775808 ≤ t ∧ t ≤ 9223372036854775807 := by
  obtain ⟨c0, c1, c2, y0, y1, y2, m, rfl, rfl, rfl, h0, h1, h2⟩ := open_agg3 Try.underlying30 (by kernel_rfl) cellsCloth hv h
  obtain ⟨p, e0, h00, h01⟩ := DataW.trod_int Try.underlying3 h0
  simp at e0
  subst e0
  obtain ⟨A, n, c, xs, rfl, a2, a3, a4, a5⟩ := cell_q4s Try.underlying27 Try.underlying70 cellsCross rfl rfl rfl rfl rfl rfl rfl rfl h1
  obtain ⟨B, m, d, ys, rfl, b2, b3, b4, b5⟩ := cell_q4s Try.underlying28 Try.underlying72 cellsPin rfl rfl rfl rfl rfl rfl rfl rfl h2
  have hr := h01
  simp [Lit.wf, IntKind.min, IntKind.max, IntKind.bits, IntKind.signed] at hr
  exact ⟨p, A, B, n, c, m, d, xs, ys, rfl, a2, a3, b2, b3, a4, a5, b4, b5, by omega, by omega⟩
set_option maxRecDepth 100000 in
/-- an argument that is a list of ints -/
theorem openInts {r : Reach} {b0 : Nat} {v : Value} {d : DataW H} {ps : List MemPlace} (hv : Value.okWide Try.prog w r b0 35 v) (h : DataW.Trod enc Try.prog w 0 (fun _ => true) held 35 v d ps) :
    ∃ (A : Option Addr) (n c : Nat) (xs : List Int), v = .slice A n c ∧ n ≤ c ∧ c ≤ 9223372036854775807 ∧ RdI w w.heap.size A xs ∧ xs.length = n := by
  obtain ⟨A, n, c, rfl⟩ := okWide_slice Try.underlying35 hv
  obtain ⟨fuel, hf⟩ := h
  simp only [Value.cells] at hf
  rcases open_slice1 Try.underlying35 cellsI hf with ⟨hv', _⟩ | ⟨a, len, cap, m, q, V, D, Pl, hv', _, hl, hc', hm, hx, hcs⟩
  · simp at hv'
    obtain ⟨rfl, rfl, rfl⟩ := hv'
    exact ⟨none, 0, 0, [], rfl, Nat.le_refl _, by omega, Rd1.nil _ _ _ _, rfl⟩
  · simp only [if_true] at hm
    subst hm
    simp at hv'
    obtain ⟨rfl, rfl, rfl⟩ := hv'
    have each : ∀ i, i < n → ∃ y : Int, w.cell? (a.add i) = some (.int .i64 y) := by
      intro i hi
      obtain ⟨h1, h2⟩ := hcs i (by omega)
      obtain ⟨y, e0, _, _⟩ := DataW.trod_int Try.underlying3 h2
      simp at e0
      exact ⟨y, by rw [h1, e0]⟩
    obtain ⟨X, hX⟩ := choose_lt each
    refine ⟨some a, n, c, (List.range n).map X, rfl, hl, Nat.le_trans hc' maxLen_le, ?_, by simp⟩
    intro k x hx
    have hk : k < n := by have := lt_of_get hx; simpa using this
    have : X k = x := by simpa [hk] using hx
    subst this
    have c0 := hX k hk
    obtain ⟨b, o, spot⟩ := a
    have z0 := hX 0 (by omega)
    have hs : spot = none := by simpa [Addr.add] using World.cell?_spot z0
    subst hs
    simp only [Addr.add_lit] at c0
    refine ⟨b, o, rfl, ?_, c0⟩
    refine Nat.lt_of_not_le fun hge => ?_
    have : w.cell? ⟨b, o + k, none⟩ = none := by
      simp [World.cell?, Array.getElem?_eq_none hge]
    rw [this] at c0; cases c0
end
end Go.Proofs.Ytpljaoagiaijiaa
