/-
  No cell of these rows narrows 'for every input' (looked for: loops, veiled, ifaces, maps, wideKeys, modest, calm, conditions, laid).
  DERIVED. THE GIVEN ROWS OF THIS SEAT. 10 by the template 'for every input the law returns true; each argument reads behind the call as it read before'; 0 by the template 'total and deterministic' (their statements: YtmghpaibdgkbfaaTotals.lean).
  GIVEN WITH THE SEED: the statements are not yours to turn. If you find one false, say at which input.
  Laid BY PROGRAM, IN A SANDBOX (cutbox-rows.mjs): the forced cells as the released guide's own fill.sh prints them over the translation 4d7010186729f265… (all of the seat's roots in one cut). By AI agents, Wed Nov 11 2026. No macro, syntax, notation, axiom, sorry.
-/
import Derived.Test.YtmghpaibdgkbfaaChecked
import GoSem.Claim
import GoSem.ClaimJoined
import GoSem.ClaimMapViews
import Derived.JoinedTies
import Derived.KernelRfl
namespace Go.Proofs.Ytmghpaibdgkbfaa
/- THE CELL 'sum', in the pinned program and in every row, IS THE sha256 OF THE DUMP (.gsa) THAT YtmghpaibdgkbfaaProg.lean LOADS. Nothing in Lean hashes anything: it is a label: what it is worth is what the hold of that sum in a sandbox is worth. -/
noncomputable def Try.pinned : Pinned := { name := "ytmghpaibdgkbfaa", sum := "4d7010186729f265a2f6b43be5f63d058477151ecc7302a8eb7ae7584d486a65", checked := Try.checked }
namespace Rows
def none {H : Type} : Left H := { results := [], args := [] }

/-- 'torchonlaw06.GridsMeasures': WHATEVER THE INPUT: true; the input reads as it did. -/
def gridsMeasuresSpec : ChangeSpec := { name := "gridsMeasures", fn := fun _ => fun
  | [d1, d2] => { results := [.lit (.bool true)], args := [d1, d2] }
  | _ => none }
def gridsMeasuresRow : OpenClaim := { program := "ytmghpaibdgkbfaa", sum := "4d7010186729f265a2f6b43be5f63d058477151ecc7302a8eb7ae7584d486a65", func := "torchon/torchonlaw06.GridsMeasures", spec := "gridsMeasures", unfollowed := true, recurses := true, apart := false }
def GridsMeasuresSaid : Prop := gridsMeasuresRow.holds Try.pinned (OpenSpec.ofChange gridsMeasuresSpec)

/-- ITS FALSE NEIGHBOUR: 'it returns false'. Refute it at one input. -/
def gridsMeasuresWrong : ChangeSpec := { name := "gridsMeasures", fn := fun _ => fun
  | [d1, d2] => { results := [.lit (.bool false)], args := [d1, d2] }
  | _ => none }
def GridsMeasuresWrongFalsely : Prop := gridsMeasuresRow.holds Try.pinned (OpenSpec.ofChange gridsMeasuresWrong)

/-- 'torchonlaw06.GridsSides': WHATEVER THE INPUT: true; the input reads as it did. -/
def gridsSidesSpec : ChangeSpec := { name := "gridsSides", fn := fun _ => fun
  | [d] => { results := [.lit (.bool true)], args := [d] }
  | _ => none }
def gridsSidesRow : OpenClaim := { program := "ytmghpaibdgkbfaa", sum := "4d7010186729f265a2f6b43be5f63d058477151ecc7302a8eb7ae7584d486a65", func := "torchon/torchonlaw06.GridsSides", spec := "gridsSides", unfollowed := true, recurses := true, apart := false }
def GridsSidesSaid : Prop := gridsSidesRow.holds Try.pinned (OpenSpec.ofChange gridsSidesSpec)

/-- ITS FALSE NEIGHBOUR: 'it returns false'. Refute it at one input. -/
def gridsSidesWrong : ChangeSpec := { name := "gridsSides", fn := fun _ => fun
  | [d] => { results := [.lit (.bool false)], args := [d] }
  | _ => none }
def GridsSidesWrongFalsely : Prop := gridsSidesRow.holds Try.pinned (OpenSpec.ofChange gridsSidesWrong)

/-- 'torchonlaw06.GridsReduces': WHATEVER THE INPUT: true; the input reads as it did. -/
def gridsReducesSpec : ChangeSpec := { name := "gridsReduces", fn := fun _ => fun
  | [d] => { results := [.lit (.bool true)], args := [d] }
  | _ => none }
def gridsReducesRow : OpenClaim := { program := "ytmghpaibdgkbfaa", sum := "4d7010186729f265a2f6b43be5f63d058477151ecc7302a8eb7ae7584d486a65", func := "torchon/torchonlaw06.GridsReduces", spec := "gridsReduces", unfollowed := true, recurses := true, apart := false }
def GridsReducesSaid : Prop := gridsReducesRow.holds Try.pinned (OpenSpec.ofChange gridsReducesSpec)

/-- ITS FALSE NEIGHBOUR: 'it returns false'. Refute it at one input. -/
def gridsReducesWrong : ChangeSpec := { name := "gridsReduces", fn := fun _ => fun
  | [d] => { results := [.lit (.bool false)], args := [d] }
  | _ => none }
def GridsReducesWrongFalsely : Prop := gridsReducesRow.holds Try.pinned (OpenSpec.ofChange gridsReducesWrong)

/-- 'torchonlaw06.GridsReduced': WHATEVER THE INPUT: true; the input reads as it did. -/
def gridsReducedSpec : ChangeSpec := { name := "gridsReduced", fn := fun _ => fun
  | [d1, d2] => { results := [.lit (.bool true)], args := [d1, d2] }
  | _ => none }
def gridsReducedRow : OpenClaim := { program := "ytmghpaibdgkbfaa", sum := "4d7010186729f265a2f6b43be5f63d058477151ecc7302a8eb7ae7584d486a65", func := "torchon/torchonlaw06.GridsReduced", spec := "gridsReduced", unfollowed := true, recurses := true, apart := false }
def GridsReducedSaid : Prop := gridsReducedRow.holds Try.pinned (OpenSpec.ofChange gridsReducedSpec)

/-- ITS FALSE NEIGHBOUR: 'it returns false'. Refute it at one input. -/
def gridsReducedWrong : ChangeSpec := { name := "gridsReduced", fn := fun _ => fun
  | [d1, d2] => { results := [.lit (.bool false)], args := [d1, d2] }
  | _ => none }
def GridsReducedWrongFalsely : Prop := gridsReducedRow.holds Try.pinned (OpenSpec.ofChange gridsReducedWrong)

/-- 'torchonlaw06.GridsTurns': WHATEVER THE INPUT: true; the input reads as it did. -/
def gridsTurnsSpec : ChangeSpec := { name := "gridsTurns", fn := fun _ => fun
  | [d1, d2] => { results := [.lit (.bool true)], args := [d1, d2] }
  | _ => none }
def gridsTurnsRow : OpenClaim := { program := "ytmghpaibdgkbfaa", sum := "4d7010186729f265a2f6b43be5f63d058477151ecc7302a8eb7ae7584d486a65", func := "torchon/torchonlaw06.GridsTurns", spec := "gridsTurns", unfollowed := true, recurses := true, apart := false }
def GridsTurnsSaid : Prop := gridsTurnsRow.holds Try.pinned (OpenSpec.ofChange gridsTurnsSpec)

/-- ITS FALSE NEIGHBOUR: 'it returns false'. Refute it at one input. -/
def gridsTurnsWrong : ChangeSpec := { name := "gridsTurns", fn := fun _ => fun
  | [d1, d2] => { results := [.lit (.bool false)], args := [d1, d2] }
  | _ => none }
def GridsTurnsWrongFalsely : Prop := gridsTurnsRow.holds Try.pinned (OpenSpec.ofChange gridsTurnsWrong)

/-- 'torchonlaw06.GridsShortest': WHATEVER THE INPUT: true; the input reads as it did. -/
def gridsShortestSpec : ChangeSpec := { name := "gridsShortest", fn := fun _ => fun
  | [d1, d2] => { results := [.lit (.bool true)], args := [d1, d2] }
  | _ => none }
def gridsShortestRow : OpenClaim := { program := "ytmghpaibdgkbfaa", sum := "4d7010186729f265a2f6b43be5f63d058477151ecc7302a8eb7ae7584d486a65", func := "torchon/torchonlaw06.GridsShortest", spec := "gridsShortest", unfollowed := true, recurses := true, apart := false }
def GridsShortestSaid : Prop := gridsShortestRow.holds Try.pinned (OpenSpec.ofChange gridsShortestSpec)

/-- ITS FALSE NEIGHBOUR: 'it returns false'. Refute it at one input. -/
def gridsShortestWrong : ChangeSpec := { name := "gridsShortest", fn := fun _ => fun
  | [d1, d2] => { results := [.lit (.bool false)], args := [d1, d2] }
  | _ => none }
def GridsShortestWrongFalsely : Prop := gridsShortestRow.holds Try.pinned (OpenSpec.ofChange gridsShortestWrong)

/-- 'torchonlaw06.GridsGroups': WHATEVER THE INPUT: true; the input reads as it did. -/
def gridsGroupsSpec : ChangeSpec := { name := "gridsGroups", fn := fun _ => fun
  | [d1, d2] => { results := [.lit (.bool true)], args := [d1, d2] }
  | _ => none }
def gridsGroupsRow : OpenClaim := { program := "ytmghpaibdgkbfaa", sum := "4d7010186729f265a2f6b43be5f63d058477151ecc7302a8eb7ae7584d486a65", func := "torchon/torchonlaw06.GridsGroups", spec := "gridsGroups", unfollowed := true, recurses := true, apart := false }
def GridsGroupsSaid : Prop := gridsGroupsRow.holds Try.pinned (OpenSpec.ofChange gridsGroupsSpec)

/-- ITS FALSE NEIGHBOUR: 'it returns false'. Refute it at one input. -/
def gridsGroupsWrong : ChangeSpec := { name := "gridsGroups", fn := fun _ => fun
  | [d1, d2] => { results := [.lit (.bool false)], args := [d1, d2] }
  | _ => none }
def GridsGroupsWrongFalsely : Prop := gridsGroupsRow.holds Try.pinned (OpenSpec.ofChange gridsGroupsWrong)

/-- 'torchonlaw06.GridsMoves': WHATEVER THE INPUT: true; the input reads as it did. -/
def gridsMovesSpec : ChangeSpec := { name := "gridsMoves", fn := fun _ => fun
  | [d1, d2, d3] => { results := [.lit (.bool true)], args := [d1, d2, d3] }
  | _ => none }
def gridsMovesRow : OpenClaim := { program := "ytmghpaibdgkbfaa", sum := "4d7010186729f265a2f6b43be5f63d058477151ecc7302a8eb7ae7584d486a65", func := "torchon/torchonlaw06.GridsMoves", spec := "gridsMoves", unfollowed := true, recurses := true, apart := false }
def GridsMovesSaid : Prop := gridsMovesRow.holds Try.pinned (OpenSpec.ofChange gridsMovesSpec)

/-- ITS FALSE NEIGHBOUR: 'it returns false'. Refute it at one input. -/
def gridsMovesWrong : ChangeSpec := { name := "gridsMoves", fn := fun _ => fun
  | [d1, d2, d3] => { results := [.lit (.bool false)], args := [d1, d2, d3] }
  | _ => none }
def GridsMovesWrongFalsely : Prop := gridsMovesRow.holds Try.pinned (OpenSpec.ofChange gridsMovesWrong)

/-- 'torchonlaw06.GridsKeep': WHATEVER THE INPUT: true; the input reads as it did. -/
def gridsKeepSpec : ChangeSpec := { name := "gridsKeep", fn := fun _ => fun
  | [d1, d2, d3] => { results := [.lit (.bool true)], args := [d1, d2, d3] }
  | _ => none }
def gridsKeepRow : OpenClaim := { program := "ytmghpaibdgkbfaa", sum := "4d7010186729f265a2f6b43be5f63d058477151ecc7302a8eb7ae7584d486a65", func := "torchon/torchonlaw06.GridsKeep", spec := "gridsKeep", unfollowed := true, recurses := true, apart := false }
def GridsKeepSaid : Prop := gridsKeepRow.holds Try.pinned (OpenSpec.ofChange gridsKeepSpec)

/-- ITS FALSE NEIGHBOUR: 'it returns false'. Refute it at one input. -/
def gridsKeepWrong : ChangeSpec := { name := "gridsKeep", fn := fun _ => fun
  | [d1, d2, d3] => { results := [.lit (.bool false)], args := [d1, d2, d3] }
  | _ => none }
def GridsKeepWrongFalsely : Prop := gridsKeepRow.holds Try.pinned (OpenSpec.ofChange gridsKeepWrong)

/-- 'torchonlaw06.GridsBack': WHATEVER THE INPUT: true; the input reads as it did. -/
def gridsBackSpec : ChangeSpec := { name := "gridsBack", fn := fun _ => fun
  | [d1, d2] => { results := [.lit (.bool true)], args := [d1, d2] }
  | _ => none }
def gridsBackRow : OpenClaim := { program := "ytmghpaibdgkbfaa", sum := "4d7010186729f265a2f6b43be5f63d058477151ecc7302a8eb7ae7584d486a65", func := "torchon/torchonlaw06.GridsBack", spec := "gridsBack", unfollowed := true, recurses := true, apart := false }
def GridsBackSaid : Prop := gridsBackRow.holds Try.pinned (OpenSpec.ofChange gridsBackSpec)

/-- ITS FALSE NEIGHBOUR: 'it returns false'. Refute it at one input. -/
def gridsBackWrong : ChangeSpec := { name := "gridsBack", fn := fun _ => fun
  | [d1, d2] => { results := [.lit (.bool false)], args := [d1, d2] }
  | _ => none }
def GridsBackWrongFalsely : Prop := gridsBackRow.holds Try.pinned (OpenSpec.ofChange gridsBackWrong)

/- THE SECOND FORM. 'bulk': how many values and letters a reading holds, each counted each time it is reached (what is shared counts as often as it is met; a slice's spare places count too). A statement '..UptoSaid' is the law's where the arguments, and the package variables that the reading takes, are together of bulk at most 1048576: NARROWER than '..Said'. Prove '..Said' where nothing that the law and all that it calls make is longer than what came in: it says more and counts as full. Else prove '..UptoSaid'. A law counts once. -/
mutual
def uptoBulk {H : Type} : DataW H → Nat
  | .lit (.string bytes) => bytes.length + 1
  | .lit _ => 1
  | .nil => 1
  | .ptr d => uptoBulk d + 1
  | .slice elems spare => uptoBulkAll elems + uptoBulkAll spare + 1
  | .agg parts => uptoBulkAll parts + 1
  | .iface _ d => uptoBulk d + 1
  | .map entries => uptoBulkEntries entries + 1
  | .held _ => 1
def uptoBulkAll {H : Type} : List (DataW H) → Nat
  | [] => 0
  | d :: r => uptoBulk d + uptoBulkAll r
def uptoBulkEntries {H : Type} : List (Lit × DataW H) → Nat
  | [] => 0
  | x :: r => uptoBulkEntry x + uptoBulkEntries r
def uptoBulkEntry {H : Type} : Lit × DataW H → Nat
  | (.string bytes, d) => bytes.length + uptoBulk d + 1
  | (_, d) => uptoBulk d + 1
 end
def uptoSmall : (H : Type) → List (DataW H) → Bool := fun _ ds => decide (uptoBulkAll ds ≤ 1048576)
def OpenSpec.upto (s : _root_.Go.ChangeSpec) : _root_.Go.OpenSpec := { _root_.Go.OpenSpec.ofChange s with cond := some uptoSmall }

/-- 'torchonlaw06.GridsMeasures', WHERE WHAT IT READS IS OF BULK AT MOST 1048576: true; the input reads as it did. -/
def gridsMeasuresUptoRow : OpenClaim := { program := "ytmghpaibdgkbfaa", sum := "4d7010186729f265a2f6b43be5f63d058477151ecc7302a8eb7ae7584d486a65", func := "torchon/torchonlaw06.GridsMeasures", spec := "gridsMeasures", unfollowed := true, recurses := true, apart := false, narrowed := true }
def GridsMeasuresUptoSaid : Prop := gridsMeasuresUptoRow.holds Try.pinned (OpenSpec.upto gridsMeasuresSpec)

/-- 'torchonlaw06.GridsSides', WHERE WHAT IT READS IS OF BULK AT MOST 1048576: true; the input reads as it did. -/
def gridsSidesUptoRow : OpenClaim := { program := "ytmghpaibdgkbfaa", sum := "4d7010186729f265a2f6b43be5f63d058477151ecc7302a8eb7ae7584d486a65", func := "torchon/torchonlaw06.GridsSides", spec := "gridsSides", unfollowed := true, recurses := true, apart := false, narrowed := true }
def GridsSidesUptoSaid : Prop := gridsSidesUptoRow.holds Try.pinned (OpenSpec.upto gridsSidesSpec)

/-- 'torchonlaw06.GridsReduces', WHERE WHAT IT READS IS OF BULK AT MOST 1048576: true; the input reads as it did. -/
def gridsReducesUptoRow : OpenClaim := { program := "ytmghpaibdgkbfaa", sum := "4d7010186729f265a2f6b43be5f63d058477151ecc7302a8eb7ae7584d486a65", func := "torchon/torchonlaw06.GridsReduces", spec := "gridsReduces", unfollowed := true, recurses := true, apart := false, narrowed := true }
def GridsReducesUptoSaid : Prop := gridsReducesUptoRow.holds Try.pinned (OpenSpec.upto gridsReducesSpec)

/-- 'torchonlaw06.GridsReduced', WHERE WHAT IT READS IS OF BULK AT MOST 1048576: true; the input reads as it did. -/
def gridsReducedUptoRow : OpenClaim := { program := "ytmghpaibdgkbfaa", sum := "4d7010186729f265a2f6b43be5f63d058477151ecc7302a8eb7ae7584d486a65", func := "torchon/torchonlaw06.GridsReduced", spec := "gridsReduced", unfollowed := true, recurses := true, apart := false, narrowed := true }
def GridsReducedUptoSaid : Prop := gridsReducedUptoRow.holds Try.pinned (OpenSpec.upto gridsReducedSpec)

/-- 'torchonlaw06.GridsTurns', WHERE WHAT IT READS IS OF BULK AT MOST 1048576: true; the input reads as it did. -/
def gridsTurnsUptoRow : OpenClaim := { program := "ytmghpaibdgkbfaa", sum := "4d7010186729f265a2f6b43be5f63d058477151ecc7302a8eb7ae7584d486a65", func := "torchon/torchonlaw06.GridsTurns", spec := "gridsTurns", unfollowed := true, recurses := true, apart := false, narrowed := true }
def GridsTurnsUptoSaid : Prop := gridsTurnsUptoRow.holds Try.pinned (OpenSpec.upto gridsTurnsSpec)

/-- 'torchonlaw06.GridsShortest', WHERE WHAT IT READS IS OF BULK AT MOST 1048576: true; the input reads as it did. -/
def gridsShortestUptoRow : OpenClaim := { program := "ytmghpaibdgkbfaa", sum := "4d7010186729f265a2f6b43be5f63d058477151ecc7302a8eb7ae7584d486a65", func := "torchon/torchonlaw06.GridsShortest", spec := "gridsShortest", unfollowed := true, recurses := true, apart := false, narrowed := true }
def GridsShortestUptoSaid : Prop := gridsShortestUptoRow.holds Try.pinned (OpenSpec.upto gridsShortestSpec)

/-- 'torchonlaw06.GridsGroups', WHERE WHAT IT READS IS OF BULK AT MOST 1048576: true; the input reads as it did. -/
def gridsGroupsUptoRow : OpenClaim := { program := "ytmghpaibdgkbfaa", sum := "4d7010186729f265a2f6b43be5f63d058477151ecc7302a8eb7ae7584d486a65", func := "torchon/torchonlaw06.GridsGroups", spec := "gridsGroups", unfollowed := true, recurses := true, apart := false, narrowed := true }
def GridsGroupsUptoSaid : Prop := gridsGroupsUptoRow.holds Try.pinned (OpenSpec.upto gridsGroupsSpec)

/-- 'torchonlaw06.GridsMoves', WHERE WHAT IT READS IS OF BULK AT MOST 1048576: true; the input reads as it did. -/
def gridsMovesUptoRow : OpenClaim := { program := "ytmghpaibdgkbfaa", sum := "4d7010186729f265a2f6b43be5f63d058477151ecc7302a8eb7ae7584d486a65", func := "torchon/torchonlaw06.GridsMoves", spec := "gridsMoves", unfollowed := true, recurses := true, apart := false, narrowed := true }
def GridsMovesUptoSaid : Prop := gridsMovesUptoRow.holds Try.pinned (OpenSpec.upto gridsMovesSpec)

/-- 'torchonlaw06.GridsKeep', WHERE WHAT IT READS IS OF BULK AT MOST 1048576: true; the input reads as it did. -/
def gridsKeepUptoRow : OpenClaim := { program := "ytmghpaibdgkbfaa", sum := "4d7010186729f265a2f6b43be5f63d058477151ecc7302a8eb7ae7584d486a65", func := "torchon/torchonlaw06.GridsKeep", spec := "gridsKeep", unfollowed := true, recurses := true, apart := false, narrowed := true }
def GridsKeepUptoSaid : Prop := gridsKeepUptoRow.holds Try.pinned (OpenSpec.upto gridsKeepSpec)

/-- 'torchonlaw06.GridsBack', WHERE WHAT IT READS IS OF BULK AT MOST 1048576: true; the input reads as it did. -/
def gridsBackUptoRow : OpenClaim := { program := "ytmghpaibdgkbfaa", sum := "4d7010186729f265a2f6b43be5f63d058477151ecc7302a8eb7ae7584d486a65", func := "torchon/torchonlaw06.GridsBack", spec := "gridsBack", unfollowed := true, recurses := true, apart := false, narrowed := true }
def GridsBackUptoSaid : Prop := gridsBackUptoRow.holds Try.pinned (OpenSpec.upto gridsBackSpec)

end Rows
end Go.Proofs.Ytmghpaibdgkbfaa
