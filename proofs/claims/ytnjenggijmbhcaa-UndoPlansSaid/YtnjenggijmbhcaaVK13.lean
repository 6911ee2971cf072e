/-
  Contract of cloth's swap: the line's two cells are exchanged, all else lies as it lay.
-/
import Derived.Test.YtnjenggijmbhcaaVK7
import Derived.Test.YtnjenggijmbhcaaVK12
import Derived.RegionTactic
namespace Go.Proofs.Ytnjenggijmbhcaa
open Go.RowKit
/-- all blocks but one lie as they lay -/
structure KeepC (gL : Nat) (A B : World) : Prop where
  os : B.os = A.os
  tape : B.tape = A.tape
  output : B.output = A.output
  size : A.heap.size ≤ B.heap.size
  same : ∀ r, r < A.heap.size → r ≠ gL → B.heap[r]? = A.heap[r]?
theorem KeepC.trans {gL : Nat} {A B C : World} (h : KeepC gL A B) (k : KeepC gL B C) : KeepC gL A C :=
  ⟨k.os.trans h.os, k.tape.trans h.tape, k.output.trans h.output, Nat.le_trans h.size k.size, fun r hr hl => (k.same r (Nat.lt_of_lt_of_le hr h.size) hl).trans (h.same r hr hl)⟩
theorem KeepC.of_below {gL : Nat} {A B : World} (h : Below A.heap.size A B) : KeepC gL A B := ⟨h.os, h.tape, h.output, h.size, fun r hr _ => h.block r hr⟩
theorem KeepC.drew {gL : Nat} {A B : World} (h : KeepC gL A B) : KeepC gL A B.drew := ⟨h.os, h.tape, h.output, h.size, h.same⟩
theorem KeepC.set {g : Nat} (A : World) (i : Nat) (u : Value) : KeepC g A (A.setCell ⟨g, i, none⟩ u) := by
  have h := (Below.refl 0 A).setCell (p := ⟨g, i, none⟩) (Nat.zero_le _) u
  exact ⟨h.os, h.tape, h.output, h.size, fun r _ hl => Below.heap_setCell A _ u r hl⟩
theorem KeepsOthers.drew (W : World) : KeepsOthers W W.drew := ⟨Nat.le_refl _, fun _ _ h _ => h⟩
end Go.Proofs.Ytnjenggijmbhcaa
