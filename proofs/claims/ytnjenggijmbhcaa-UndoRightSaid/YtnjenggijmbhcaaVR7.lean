/-
  Words for rows of works that are stored into; a slice cut off behind.
-/
import Derived.Test.YtnjenggijmbhcaaVK2
namespace Go.Proofs.Ytnjenggijmbhcaa
open Go.RowKit
theorem wks_set8 (L : List Wk) (rest : List Value) (y : Wk) : ∀ j, j < L.length → (((wksCells L ++ rest).set (j * 3) (.int .i64 y.kind)).set (j * 3 + 1) (.int .i64 y.at_)).set (j * 3 + 2) (.string y.word) = wksCells (L.set j y) ++ rest := by
  induction L with
  | nil => intro j hj; simp at hj
  | cons z L ih =>
    intro j hj
    match j with
    | 0 => rfl
    | j + 1 =>
      have := ih j (by simpa using hj)
      have e : (j + 1) * 3 = j * 3 + 3 := by omega
      rw [e]
      show (((wkCells z ++ wksCells L ++ rest).set (j * 3 + 3) _).set (j * 3 + 3 + 1) _).set (j * 3 + 3 + 2) _ = wkCells z ++ wksCells (L.set j y) ++ rest
      rw [List.append_assoc, List.append_assoc, ← this]
      rfl
theorem has_rdW8 {w : World} {g : Nat} {t : TypeId} {ws : List Wk} {rest : List Value} (h : Has w g t (wksCells ws ++ rest)) : RdW w w.heap.size (some ⟨g, 0, none⟩) ws := fun k x hx => by
  obtain ⟨e1, e2, e3⟩ := wksCells_get hx
  have l1 := lt_of_get e1
  have l2 := lt_of_get e2
  have l3 := lt_of_get e3
  exact ⟨g, 0, rfl, h.lt, by rw [Nat.zero_add]; exact (h.cell _).trans ((List.getElem?_append_left l1).trans e1), by rw [Nat.zero_add]; exact (h.cell _).trans ((List.getElem?_append_left l2).trans e2), by rw [Nat.zero_add]; exact (h.cell _).trans ((List.getElem?_append_left l3).trans e3)⟩
theorem slice_to8 (T : TypeId) (size : Nat) (hT : Try.prog.underlying T = some (.slice (Try.prog.elem T))) (hs : ∀ W, (sizeOf (Try.prog.elem T)).run Try.prog W = .ok size W) (A : Option Addr) (n c m : Nat) (hm : m ≤ c) (W : World) : (Instr.slice T (.slice A n c) none (some (.int .i64 (m : Int))) none).run Try.prog W = .ok (.slice A m c) W := by
  rw [run_slice_h (P := Try.prog) (w := W) _ _ _ _ hT .i64 (m : Int) (by omega) (by omega), hs]
  simp [sliced]
  intro _
  cases A <;> simp [Addr.add_zero']
theorem own_has8 {w : World} {base : Nat} {e : TypeId} {n c : Nat} {A : Option Addr} {ws : List Wk} (h : w.ownsRow base e 3 (.slice A n c) n (wksCells ws)) (hn : 0 < n) : ∃ g rest, A = some ⟨g, 0, none⟩ ∧ base ≤ g ∧ Has w g e (wksCells ws ++ rest) := by
  rcases h.2 with ⟨_, h0⟩ | ⟨g, cap, cur, hv, hg, hh, _, _, _, ht⟩
  · omega
  · injection hv with hv _ _
    refine ⟨g, cur.toList.drop (n * 3), hv, hg, ?_⟩
    unfold Has
    rw [hh, ← ht, List.take_append_drop]
theorem RdW.take {w : World} {B : Nat} {A : Option Addr} {ws us : List Wk} (h : RdW w B A (ws ++ us)) : RdW w B A ws := fun k x hx => h k x (by rw [List.getElem?_append_left (lt_of_get hx)]; exact hx)
end Go.Proofs.Ytnjenggijmbhcaa
