/-
  No cell of these rows narrows 'for every input' (looked for: loops, veiled, ifaces, maps, wideKeys, modest, calm, conditions, laid).
  DERIVED. THE GIVEN ROWS OF THIS SEAT. 9 by the template 'for every input the law returns true; each argument reads behind the call as it read before'; 0 by the template 'total and deterministic' (their statements: YtnijfkidgndbdaaTotals.lean).
  GIVEN WITH THE SEED: the statements are not yours to turn. If you find one false, say at which input.
  Laid BY PROGRAM, IN A SANDBOX (cutbox-rows.mjs): the forced cells as the released guide's own fill.sh prints them over the translation 84cd824dcd71a40e… (all of the seat's roots in one cut). By AI agents, Wed Nov 11 2026. No macro, syntax, notation, axiom, sorry.
-/
import Derived.Test.YtnijfkidgndbdaaChecked
import GoSem.Claim
import GoSem.ClaimJoined
import GoSem.ClaimMapViews
import Derived.JoinedTies
import Derived.KernelRfl
namespace Go.Proofs.Ytnijfkidgndbdaa
/- THE CELL 'sum', in the pinned program and in every row, IS THE sha256 OF THE DUMP (.gsa) THAT YtnijfkidgndbdaaProg.lean LOADS. Nothing in Lean hashes anything: it is a label: what it is worth is what the hold of that sum in a sandbox is worth. -/
noncomputable def Try.pinned : Pinned := { name := "ytnijfkidgndbdaa", sum := "84cd824dcd71a40e2ccf42a98f58ab9bb9702a1e7ce37c465244e5541c86d44e", checked := Try.checked }
namespace Rows
def none {H : Type} : Left H := { results := [], args := [] }

/-- 'torchonlaw21.ColoursSeen': WHATEVER THE INPUT: true; the input reads as it did. -/
def coloursSeenSpec : ChangeSpec := { name := "coloursSeen", fn := fun _ => fun
  | [d1, d2, d3] => { results := [.lit (.bool true)], args := [d1, d2, d3] }
  | _ => none }
def coloursSeenRow : OpenClaim := { program := "ytnijfkidgndbdaa", sum := "84cd824dcd71a40e2ccf42a98f58ab9bb9702a1e7ce37c465244e5541c86d44e", func := "torchon/torchonlaw21.ColoursSeen", spec := "coloursSeen", unfollowed := true, recurses := true, apart := false }
def ColoursSeenSaid : Prop := coloursSeenRow.holds Try.pinned (OpenSpec.ofChange coloursSeenSpec)

/-- ITS FALSE NEIGHBOUR: 'it returns false'. Refute it at one input. -/
def coloursSeenWrong : ChangeSpec := { name := "coloursSeen", fn := fun _ => fun
  | [d1, d2, d3] => { results := [.lit (.bool false)], args := [d1, d2, d3] }
  | _ => none }
def ColoursSeenWrongFalsely : Prop := coloursSeenRow.holds Try.pinned (OpenSpec.ofChange coloursSeenWrong)

/-- 'torchonlaw21.ColoursLeast': WHATEVER THE INPUT: true; the input reads as it did. -/
def coloursLeastSpec : ChangeSpec := { name := "coloursLeast", fn := fun _ => fun
  | [d1, d2] => { results := [.lit (.bool true)], args := [d1, d2] }
  | _ => none }
def coloursLeastRow : OpenClaim := { program := "ytnijfkidgndbdaa", sum := "84cd824dcd71a40e2ccf42a98f58ab9bb9702a1e7ce37c465244e5541c86d44e", func := "torchon/torchonlaw21.ColoursLeast", spec := "coloursLeast", unfollowed := true, recurses := true, apart := false }
def ColoursLeastSaid : Prop := coloursLeastRow.holds Try.pinned (OpenSpec.ofChange coloursLeastSpec)

/-- ITS FALSE NEIGHBOUR: 'it returns false'. Refute it at one input. -/
def coloursLeastWrong : ChangeSpec := { name := "coloursLeast", fn := fun _ => fun
  | [d1, d2] => { results := [.lit (.bool false)], args := [d1, d2] }
  | _ => none }
def ColoursLeastWrongFalsely : Prop := coloursLeastRow.holds Try.pinned (OpenSpec.ofChange coloursLeastWrong)

/-- 'torchonlaw21.ColoursLines': WHATEVER THE INPUT: true; the input reads as it did. -/
def coloursLinesSpec : ChangeSpec := { name := "coloursLines", fn := fun _ => fun
  | [d1, d2] => { results := [.lit (.bool true)], args := [d1, d2] }
  | _ => none }
def coloursLinesRow : OpenClaim := { program := "ytnijfkidgndbdaa", sum := "84cd824dcd71a40e2ccf42a98f58ab9bb9702a1e7ce37c465244e5541c86d44e", func := "torchon/torchonlaw21.ColoursLines", spec := "coloursLines", unfollowed := true, recurses := true, apart := false }
def ColoursLinesSaid : Prop := coloursLinesRow.holds Try.pinned (OpenSpec.ofChange coloursLinesSpec)

/-- ITS FALSE NEIGHBOUR: 'it returns false'. Refute it at one input. -/
def coloursLinesWrong : ChangeSpec := { name := "coloursLines", fn := fun _ => fun
  | [d1, d2] => { results := [.lit (.bool false)], args := [d1, d2] }
  | _ => none }
def ColoursLinesWrongFalsely : Prop := coloursLinesRow.holds Try.pinned (OpenSpec.ofChange coloursLinesWrong)

/-- 'torchonlaw21.ColoursTurned': WHATEVER THE INPUT: true; the input reads as it did. -/
def coloursTurnedSpec : ChangeSpec := { name := "coloursTurned", fn := fun _ => fun
  | [d1, d2] => { results := [.lit (.bool true)], args := [d1, d2] }
  | _ => none }
def coloursTurnedRow : OpenClaim := { program := "ytnijfkidgndbdaa", sum := "84cd824dcd71a40e2ccf42a98f58ab9bb9702a1e7ce37c465244e5541c86d44e", func := "torchon/torchonlaw21.ColoursTurned", spec := "coloursTurned", unfollowed := true, recurses := true, apart := false }
def ColoursTurnedSaid : Prop := coloursTurnedRow.holds Try.pinned (OpenSpec.ofChange coloursTurnedSpec)

/-- ITS FALSE NEIGHBOUR: 'it returns false'. Refute it at one input. -/
def coloursTurnedWrong : ChangeSpec := { name := "coloursTurned", fn := fun _ => fun
  | [d1, d2] => { results := [.lit (.bool false)], args := [d1, d2] }
  | _ => none }
def ColoursTurnedWrongFalsely : Prop := coloursTurnedRow.holds Try.pinned (OpenSpec.ofChange coloursTurnedWrong)

/-- 'torchonlaw21.ColoursRuns': WHATEVER THE INPUT: true; the input reads as it did. -/
def coloursRunsSpec : ChangeSpec := { name := "coloursRuns", fn := fun _ => fun
  | [d1, d2, d3] => { results := [.lit (.bool true)], args := [d1, d2, d3] }
  | _ => none }
def coloursRunsRow : OpenClaim := { program := "ytnijfkidgndbdaa", sum := "84cd824dcd71a40e2ccf42a98f58ab9bb9702a1e7ce37c465244e5541c86d44e", func := "torchon/torchonlaw21.ColoursRuns", spec := "coloursRuns", unfollowed := true, recurses := true, apart := false }
def ColoursRunsSaid : Prop := coloursRunsRow.holds Try.pinned (OpenSpec.ofChange coloursRunsSpec)

/-- ITS FALSE NEIGHBOUR: 'it returns false'. Refute it at one input. -/
def coloursRunsWrong : ChangeSpec := { name := "coloursRuns", fn := fun _ => fun
  | [d1, d2, d3] => { results := [.lit (.bool false)], args := [d1, d2, d3] }
  | _ => none }
def ColoursRunsWrongFalsely : Prop := coloursRunsRow.holds Try.pinned (OpenSpec.ofChange coloursRunsWrong)

/-- 'torchonlaw21.ColoursBack': WHATEVER THE INPUT: true; the input reads as it did. -/
def coloursBackSpec : ChangeSpec := { name := "coloursBack", fn := fun _ => fun
  | [d1, d2, d3] => { results := [.lit (.bool true)], args := [d1, d2, d3] }
  | _ => none }
def coloursBackRow : OpenClaim := { program := "ytnijfkidgndbdaa", sum := "84cd824dcd71a40e2ccf42a98f58ab9bb9702a1e7ce37c465244e5541c86d44e", func := "torchon/torchonlaw21.ColoursBack", spec := "coloursBack", unfollowed := true, recurses := true, apart := false }
def ColoursBackSaid : Prop := coloursBackRow.holds Try.pinned (OpenSpec.ofChange coloursBackSpec)

/-- ITS FALSE NEIGHBOUR: 'it returns false'. Refute it at one input. -/
def coloursBackWrong : ChangeSpec := { name := "coloursBack", fn := fun _ => fun
  | [d1, d2, d3] => { results := [.lit (.bool false)], args := [d1, d2, d3] }
  | _ => none }
def ColoursBackWrongFalsely : Prop := coloursBackRow.holds Try.pinned (OpenSpec.ofChange coloursBackWrong)

/-- 'torchonlaw21.ColoursShown': WHATEVER THE INPUT: true; the input reads as it did. -/
def coloursShownSpec : ChangeSpec := { name := "coloursShown", fn := fun _ => fun
  | [d1, d2, d3] => { results := [.lit (.bool true)], args := [d1, d2, d3] }
  | _ => none }
def coloursShownRow : OpenClaim := { program := "ytnijfkidgndbdaa", sum := "84cd824dcd71a40e2ccf42a98f58ab9bb9702a1e7ce37c465244e5541c86d44e", func := "torchon/torchonlaw21.ColoursShown", spec := "coloursShown", unfollowed := true, recurses := true, apart := false }
def ColoursShownSaid : Prop := coloursShownRow.holds Try.pinned (OpenSpec.ofChange coloursShownSpec)

/-- ITS FALSE NEIGHBOUR: 'it returns false'. Refute it at one input. -/
def coloursShownWrong : ChangeSpec := { name := "coloursShown", fn := fun _ => fun
  | [d1, d2, d3] => { results := [.lit (.bool false)], args := [d1, d2, d3] }
  | _ => none }
def ColoursShownWrongFalsely : Prop := coloursShownRow.holds Try.pinned (OpenSpec.ofChange coloursShownWrong)

/-- 'torchonlaw21.ColoursNames': WHATEVER THE INPUT: true; the input reads as it did. -/
def coloursNamesSpec : ChangeSpec := { name := "coloursNames", fn := fun _ => fun
  | [d1, d2, d3] => { results := [.lit (.bool true)], args := [d1, d2, d3] }
  | _ => none }
def coloursNamesRow : OpenClaim := { program := "ytnijfkidgndbdaa", sum := "84cd824dcd71a40e2ccf42a98f58ab9bb9702a1e7ce37c465244e5541c86d44e", func := "torchon/torchonlaw21.ColoursNames", spec := "coloursNames", unfollowed := true, recurses := true, apart := false }
def ColoursNamesSaid : Prop := coloursNamesRow.holds Try.pinned (OpenSpec.ofChange coloursNamesSpec)

/-- ITS FALSE NEIGHBOUR: 'it returns false'. Refute it at one input. -/
def coloursNamesWrong : ChangeSpec := { name := "coloursNames", fn := fun _ => fun
  | [d1, d2, d3] => { results := [.lit (.bool false)], args := [d1, d2, d3] }
  | _ => none }
def ColoursNamesWrongFalsely : Prop := coloursNamesRow.holds Try.pinned (OpenSpec.ofChange coloursNamesWrong)

/-- 'torchonlaw21.ColoursKnown': WHATEVER THE INPUT: true; the input reads as it did. -/
def coloursKnownSpec : ChangeSpec := { name := "coloursKnown", fn := fun _ => fun
  | [] => { results := [.lit (.bool true)], args := [] }
  | _ => none }
def coloursKnownRow : OpenClaim := { program := "ytnijfkidgndbdaa", sum := "84cd824dcd71a40e2ccf42a98f58ab9bb9702a1e7ce37c465244e5541c86d44e", func := "torchon/torchonlaw21.ColoursKnown", spec := "coloursKnown", unfollowed := true, recurses := true, apart := false }
def ColoursKnownSaid : Prop := coloursKnownRow.holds Try.pinned (OpenSpec.ofChange coloursKnownSpec)

/-- ITS FALSE NEIGHBOUR: 'it returns false'. Refute it at one input. -/
def coloursKnownWrong : ChangeSpec := { name := "coloursKnown", fn := fun _ => fun
  | [] => { results := [.lit (.bool false)], args := [] }
  | _ => none }
def ColoursKnownWrongFalsely : Prop := coloursKnownRow.holds Try.pinned (OpenSpec.ofChange coloursKnownWrong)

/- THE SECOND FORM. 'bulk': how many values and letters a reading holds, each counted each time it is reached (what is shared counts as often as it is met; a slice's spare places count too). A statement '..UptoSaid' is the law's where the arguments, and the package variables that the reading takes, are together of bulk at most 1048576: NARROWER than '..Said'. Prove '..Said' where nothing that the law and all that it calls make is longer than what came in: it says more and counts as full. Else prove '..UptoSaid'. A law counts once. -/
mutual
def uptoBulk {H : Type} : DataW H → Nat
  | .lit (.string bytes) => bytes.length + 1
  | .lit _ => 1
  | .nil => 1
  | .ptr d => uptoBulk d + 1
  | .slice elems spare => uptoBulkAll elems + uptoBulkAll spare + 1
  | .agg parts => uptoBulkAll parts + 1
  | .iface _ d => uptoBulk d + 1
  | .map entries => uptoBulkEntries entries + 1
  | .held _ => 1
def uptoBulkAll {H : Type} : List (DataW H) → Nat
  | [] => 0
  | d :: r => uptoBulk d + uptoBulkAll r
def uptoBulkEntries {H : Type} : List (Lit × DataW H) → Nat
  | [] => 0
  | x :: r => uptoBulkEntry x + uptoBulkEntries r
def uptoBulkEntry {H : Type} : Lit × DataW H → Nat
  | (.string bytes, d) => bytes.length + uptoBulk d + 1
  | (_, d) => uptoBulk d + 1
 end
def uptoSmall : (H : Type) → List (DataW H) → Bool := fun _ ds => decide (uptoBulkAll ds ≤ 1048576)
def OpenSpec.upto (s : _root_.Go.ChangeSpec) : _root_.Go.OpenSpec := { _root_.Go.OpenSpec.ofChange s with cond := some uptoSmall }

/-- 'torchonlaw21.ColoursSeen', WHERE WHAT IT READS IS OF BULK AT MOST 1048576: true; the input reads as it did. -/
def coloursSeenUptoRow : OpenClaim := { program := "ytnijfkidgndbdaa", sum := "84cd824dcd71a40e2ccf42a98f58ab9bb9702a1e7ce37c465244e5541c86d44e", func := "torchon/torchonlaw21.ColoursSeen", spec := "coloursSeen", unfollowed := true, recurses := true, apart := false, narrowed := true }
def ColoursSeenUptoSaid : Prop := coloursSeenUptoRow.holds Try.pinned (OpenSpec.upto coloursSeenSpec)

/-- 'torchonlaw21.ColoursLeast', WHERE WHAT IT READS IS OF BULK AT MOST 1048576: true; the input reads as it did. -/
def coloursLeastUptoRow : OpenClaim := { program := "ytnijfkidgndbdaa", sum := "84cd824dcd71a40e2ccf42a98f58ab9bb9702a1e7ce37c465244e5541c86d44e", func := "torchon/torchonlaw21.ColoursLeast", spec := "coloursLeast", unfollowed := true, recurses := true, apart := false, narrowed := true }
def ColoursLeastUptoSaid : Prop := coloursLeastUptoRow.holds Try.pinned (OpenSpec.upto coloursLeastSpec)

/-- 'torchonlaw21.ColoursLines', WHERE WHAT IT READS IS OF BULK AT MOST 1048576: true; the input reads as it did. -/
def coloursLinesUptoRow : OpenClaim := { program := "ytnijfkidgndbdaa", sum := "84cd824dcd71a40e2ccf42a98f58ab9bb9702a1e7ce37c465244e5541c86d44e", func := "torchon/torchonlaw21.ColoursLines", spec := "coloursLines", unfollowed := true, recurses := true, apart := false, narrowed := true }
def ColoursLinesUptoSaid : Prop := coloursLinesUptoRow.holds Try.pinned (OpenSpec.upto coloursLinesSpec)

/-- 'torchonlaw21.ColoursTurned', WHERE WHAT IT READS IS OF BULK AT MOST 1048576: true; the input reads as it did. -/
def coloursTurnedUptoRow : OpenClaim := { program := "ytnijfkidgndbdaa", sum := "84cd824dcd71a40e2ccf42a98f58ab9bb9702a1e7ce37c465244e5541c86d44e", func := "torchon/torchonlaw21.ColoursTurned", spec := "coloursTurned", unfollowed := true, recurses := true, apart := false, narrowed := true }
def ColoursTurnedUptoSaid : Prop := coloursTurnedUptoRow.holds Try.pinned (OpenSpec.upto coloursTurnedSpec)

/-- 'torchonlaw21.ColoursRuns', WHERE WHAT IT READS IS OF BULK AT MOST 1048576: true; the input reads as it did. -/
def coloursRunsUptoRow : OpenClaim := { program := "ytnijfkidgndbdaa", sum := "84cd824dcd71a40e2ccf42a98f58ab9bb9702a1e7ce37c465244e5541c86d44e", func := "torchon/torchonlaw21.ColoursRuns", spec := "coloursRuns", unfollowed := true, recurses := true, apart := false, narrowed := true }
def ColoursRunsUptoSaid : Prop := coloursRunsUptoRow.holds Try.pinned (OpenSpec.upto coloursRunsSpec)

/-- 'torchonlaw21.ColoursBack', WHERE WHAT IT READS IS OF BULK AT MOST 1048576: true; the input reads as it did. -/
def coloursBackUptoRow : OpenClaim := { program := "ytnijfkidgndbdaa", sum := "84cd824dcd71a40e2ccf42a98f58ab9bb9702a1e7ce37c465244e5541c86d44e", func := "torchon/torchonlaw21.ColoursBack", spec := "coloursBack", unfollowed := true, recurses := true, apart := false, narrowed := true }
def ColoursBackUptoSaid : Prop := coloursBackUptoRow.holds Try.pinned (OpenSpec.upto coloursBackSpec)

/-- 'torchonlaw21.ColoursShown', WHERE WHAT IT READS IS OF BULK AT MOST 1048576: true; the input reads as it did. -/
def coloursShownUptoRow : OpenClaim := { program := "ytnijfkidgndbdaa", sum := "84cd824dcd71a40e2ccf42a98f58ab9bb9702a1e7ce37c465244e5541c86d44e", func := "torchon/torchonlaw21.ColoursShown", spec := "coloursShown", unfollowed := true, recurses := true, apart := false, narrowed := true }
def ColoursShownUptoSaid : Prop := coloursShownUptoRow.holds Try.pinned (OpenSpec.upto coloursShownSpec)

/-- 'torchonlaw21.ColoursNames', WHERE WHAT IT READS IS OF BULK AT MOST 1048576: true; the input reads as it did. -/
def coloursNamesUptoRow : OpenClaim := { program := "ytnijfkidgndbdaa", sum := "84cd824dcd71a40e2ccf42a98f58ab9bb9702a1e7ce37c465244e5541c86d44e", func := "torchon/torchonlaw21.ColoursNames", spec := "coloursNames", unfollowed := true, recurses := true, apart := false, narrowed := true }
def ColoursNamesUptoSaid : Prop := coloursNamesUptoRow.holds Try.pinned (OpenSpec.upto coloursNamesSpec)

/-- 'torchonlaw21.ColoursKnown', WHERE WHAT IT READS IS OF BULK AT MOST 1048576: true; the input reads as it did. -/
def coloursKnownUptoRow : OpenClaim := { program := "ytnijfkidgndbdaa", sum := "84cd824dcd71a40e2ccf42a98f58ab9bb9702a1e7ce37c465244e5541c86d44e", func := "torchon/torchonlaw21.ColoursKnown", spec := "coloursKnown", unfollowed := true, recurses := true, apart := false, narrowed := true }
def ColoursKnownUptoSaid : Prop := coloursKnownUptoRow.holds Try.pinned (OpenSpec.upto coloursKnownSpec)

end Rows
end Go.Proofs.Ytnijfkidgndbdaa
