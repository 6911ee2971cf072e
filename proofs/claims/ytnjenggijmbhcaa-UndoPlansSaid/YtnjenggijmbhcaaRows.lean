/-
  No cell of these rows narrows 'for every input' (looked for: loops, veiled, ifaces, maps, wideKeys, modest, calm, conditions, laid).
  DERIVED. THE GIVEN ROWS OF THIS SEAT. 8 by the template 'for every input the law returns true; each argument reads behind the call as it read before'; 0 by the template 'total and deterministic' (their statements: YtnjenggijmbhcaaTotals.lean).
  GIVEN WITH THE SEED: the statements are not yours to turn. If you find one false, say at which input.
  Laid BY PROGRAM, IN A SANDBOX (cutbox-rows.mjs): the forced cells as the released guide's own fill.sh prints them over the translation 0cc27f89de5f312e… (all of the seat's roots in one cut). By AI agents, Wed Nov 11 2026. No macro, syntax, notation, axiom, sorry.
-/
import Derived.Test.YtnjenggijmbhcaaChecked
import GoSem.Claim
import GoSem.ClaimJoined
import GoSem.ClaimMapViews
import Derived.JoinedTies
import Derived.KernelRfl
namespace Go.Proofs.Ytnjenggijmbhcaa
/- THE CELL 'sum', in the pinned program and in every row, IS THE sha256 OF THE DUMP (.gsa) THAT YtnjenggijmbhcaaProg.lean LOADS. Nothing in Lean hashes anything: it is a label: what it is worth is what the hold of that sum in a sandbox is worth. -/
noncomputable def Try.pinned : Pinned := { name := "ytnjenggijmbhcaa", sum := "0cc27f89de5f312e0988540f0bdb86f2379c616ac6b431a9783f58d808a80f66", checked := Try.checked }
namespace Rows
def none {H : Type} : Left H := { results := [], args := [] }

/-- 'torchonlaw28.UndoAbove': WHATEVER THE INPUT: true; the input reads as it did. -/
def undoAboveSpec : ChangeSpec := { name := "undoAbove", fn := fun _ => fun
  | [d1, d2, d3] => { results := [.lit (.bool true)], args := [d1, d2, d3] }
  | _ => none }
def undoAboveRow : OpenClaim := { program := "ytnjenggijmbhcaa", sum := "0cc27f89de5f312e0988540f0bdb86f2379c616ac6b431a9783f58d808a80f66", func := "torchon/torchonlaw28.UndoAbove", spec := "undoAbove", inPlace := ["internal/bytealg.IndexByteString"], unfollowed := true, recurses := true, apart := false }
def UndoAboveSaid : Prop := undoAboveRow.holds Try.pinned (OpenSpec.ofChange undoAboveSpec)

/-- ITS FALSE NEIGHBOUR: 'it returns false'. Refute it at one input. -/
def undoAboveWrong : ChangeSpec := { name := "undoAbove", fn := fun _ => fun
  | [d1, d2, d3] => { results := [.lit (.bool false)], args := [d1, d2, d3] }
  | _ => none }
def UndoAboveWrongFalsely : Prop := undoAboveRow.holds Try.pinned (OpenSpec.ofChange undoAboveWrong)

/-- 'torchonlaw28.UndoNet': WHATEVER THE INPUT: true; the input reads as it did. -/
def undoNetSpec : ChangeSpec := { name := "undoNet", fn := fun _ => fun
  | [d1, d2, d3] => { results := [.lit (.bool true)], args := [d1, d2, d3] }
  | _ => none }
def undoNetRow : OpenClaim := { program := "ytnjenggijmbhcaa", sum := "0cc27f89de5f312e0988540f0bdb86f2379c616ac6b431a9783f58d808a80f66", func := "torchon/torchonlaw28.UndoNet", spec := "undoNet", inPlace := ["internal/bytealg.IndexByteString"], unfollowed := true, recurses := true, apart := false }
def UndoNetSaid : Prop := undoNetRow.holds Try.pinned (OpenSpec.ofChange undoNetSpec)

/-- ITS FALSE NEIGHBOUR: 'it returns false'. Refute it at one input. -/
def undoNetWrong : ChangeSpec := { name := "undoNet", fn := fun _ => fun
  | [d1, d2, d3] => { results := [.lit (.bool false)], args := [d1, d2, d3] }
  | _ => none }
def UndoNetWrongFalsely : Prop := undoNetRow.holds Try.pinned (OpenSpec.ofChange undoNetWrong)

/-- 'torchonlaw28.UndoAll': WHATEVER THE INPUT: true; the input reads as it did. -/
def undoAllSpec : ChangeSpec := { name := "undoAll", fn := fun _ => fun
  | [d1, d2] => { results := [.lit (.bool true)], args := [d1, d2] }
  | _ => none }
def undoAllRow : OpenClaim := { program := "ytnjenggijmbhcaa", sum := "0cc27f89de5f312e0988540f0bdb86f2379c616ac6b431a9783f58d808a80f66", func := "torchon/torchonlaw28.UndoAll", spec := "undoAll", inPlace := ["internal/bytealg.IndexByteString"], unfollowed := true, recurses := true, apart := false }
def UndoAllSaid : Prop := undoAllRow.holds Try.pinned (OpenSpec.ofChange undoAllSpec)

/-- ITS FALSE NEIGHBOUR: 'it returns false'. Refute it at one input. -/
def undoAllWrong : ChangeSpec := { name := "undoAll", fn := fun _ => fun
  | [d1, d2] => { results := [.lit (.bool false)], args := [d1, d2] }
  | _ => none }
def UndoAllWrongFalsely : Prop := undoAllRow.holds Try.pinned (OpenSpec.ofChange undoAllWrong)

/-- 'torchonlaw28.UndoLeast': WHATEVER THE INPUT: true; the input reads as it did. -/
def undoLeastSpec : ChangeSpec := { name := "undoLeast", fn := fun _ => fun
  | [d1, d2] => { results := [.lit (.bool true)], args := [d1, d2] }
  | _ => none }
def undoLeastRow : OpenClaim := { program := "ytnjenggijmbhcaa", sum := "0cc27f89de5f312e0988540f0bdb86f2379c616ac6b431a9783f58d808a80f66", func := "torchon/torchonlaw28.UndoLeast", spec := "undoLeast", inPlace := ["internal/bytealg.IndexByteString"], unfollowed := true, recurses := true, apart := false }
def UndoLeastSaid : Prop := undoLeastRow.holds Try.pinned (OpenSpec.ofChange undoLeastSpec)

/-- ITS FALSE NEIGHBOUR: 'it returns false'. Refute it at one input. -/
def undoLeastWrong : ChangeSpec := { name := "undoLeast", fn := fun _ => fun
  | [d1, d2] => { results := [.lit (.bool false)], args := [d1, d2] }
  | _ => none }
def UndoLeastWrongFalsely : Prop := undoLeastRow.holds Try.pinned (OpenSpec.ofChange undoLeastWrong)

/-- 'torchonlaw28.UndoBraid': WHATEVER THE INPUT: true; the input reads as it did. -/
def undoBraidSpec : ChangeSpec := { name := "undoBraid", fn := fun _ => fun
  | [d] => { results := [.lit (.bool true)], args := [d] }
  | _ => none }
def undoBraidRow : OpenClaim := { program := "ytnjenggijmbhcaa", sum := "0cc27f89de5f312e0988540f0bdb86f2379c616ac6b431a9783f58d808a80f66", func := "torchon/torchonlaw28.UndoBraid", spec := "undoBraid", inPlace := ["internal/bytealg.IndexByteString"], unfollowed := true, recurses := true, apart := false }
def UndoBraidSaid : Prop := undoBraidRow.holds Try.pinned (OpenSpec.ofChange undoBraidSpec)

/-- ITS FALSE NEIGHBOUR: 'it returns false'. Refute it at one input. -/
def undoBraidWrong : ChangeSpec := { name := "undoBraid", fn := fun _ => fun
  | [d] => { results := [.lit (.bool false)], args := [d] }
  | _ => none }
def UndoBraidWrongFalsely : Prop := undoBraidRow.holds Try.pinned (OpenSpec.ofChange undoBraidWrong)

/-- 'torchonlaw28.UndoKnown': WHATEVER THE INPUT: true; the input reads as it did. -/
def undoKnownSpec : ChangeSpec := { name := "undoKnown", fn := fun _ => fun
  | [] => { results := [.lit (.bool true)], args := [] }
  | _ => none }
def undoKnownRow : OpenClaim := { program := "ytnjenggijmbhcaa", sum := "0cc27f89de5f312e0988540f0bdb86f2379c616ac6b431a9783f58d808a80f66", func := "torchon/torchonlaw28.UndoKnown", spec := "undoKnown", inPlace := ["internal/bytealg.IndexByteString"], unfollowed := true, recurses := true, apart := false }
def UndoKnownSaid : Prop := undoKnownRow.holds Try.pinned (OpenSpec.ofChange undoKnownSpec)

/-- ITS FALSE NEIGHBOUR: 'it returns false'. Refute it at one input. -/
def undoKnownWrong : ChangeSpec := { name := "undoKnown", fn := fun _ => fun
  | [] => { results := [.lit (.bool false)], args := [] }
  | _ => none }
def UndoKnownWrongFalsely : Prop := undoKnownRow.holds Try.pinned (OpenSpec.ofChange undoKnownWrong)

/-- 'torchonlaw28.UndoRight': WHATEVER THE INPUT: true; the input reads as it did. -/
def undoRightSpec : ChangeSpec := { name := "undoRight", fn := fun _ => fun
  | [d] => { results := [.lit (.bool true)], args := [d] }
  | _ => none }
def undoRightRow : OpenClaim := { program := "ytnjenggijmbhcaa", sum := "0cc27f89de5f312e0988540f0bdb86f2379c616ac6b431a9783f58d808a80f66", func := "torchon/torchonlaw28.UndoRight", spec := "undoRight", inPlace := ["internal/bytealg.IndexByteString"], unfollowed := true, recurses := true, apart := false }
def UndoRightSaid : Prop := undoRightRow.holds Try.pinned (OpenSpec.ofChange undoRightSpec)

/-- ITS FALSE NEIGHBOUR: 'it returns false'. Refute it at one input. -/
def undoRightWrong : ChangeSpec := { name := "undoRight", fn := fun _ => fun
  | [d] => { results := [.lit (.bool false)], args := [d] }
  | _ => none }
def UndoRightWrongFalsely : Prop := undoRightRow.holds Try.pinned (OpenSpec.ofChange undoRightWrong)

/-- 'torchonlaw28.UndoPlans': WHATEVER THE INPUT: true; the input reads as it did. -/
def undoPlansSpec : ChangeSpec := { name := "undoPlans", fn := fun _ => fun
  | [d1, d2] => { results := [.lit (.bool true)], args := [d1, d2] }
  | _ => none }
def undoPlansRow : OpenClaim := { program := "ytnjenggijmbhcaa", sum := "0cc27f89de5f312e0988540f0bdb86f2379c616ac6b431a9783f58d808a80f66", func := "torchon/torchonlaw28.UndoPlans", spec := "undoPlans", inPlace := ["internal/bytealg.IndexByteString"], unfollowed := true, recurses := true, apart := false }
def UndoPlansSaid : Prop := undoPlansRow.holds Try.pinned (OpenSpec.ofChange undoPlansSpec)

/-- ITS FALSE NEIGHBOUR: 'it returns false'. Refute it at one input. -/
def undoPlansWrong : ChangeSpec := { name := "undoPlans", fn := fun _ => fun
  | [d1, d2] => { results := [.lit (.bool false)], args := [d1, d2] }
  | _ => none }
def UndoPlansWrongFalsely : Prop := undoPlansRow.holds Try.pinned (OpenSpec.ofChange undoPlansWrong)

/- THE SECOND FORM. 'bulk': how many values and letters a reading holds, each counted each time it is reached (what is shared counts as often as it is met; a slice's spare places count too). A statement '..UptoSaid' is the law's where the arguments, and the package variables that the reading takes, are together of bulk at most 1048576: NARROWER than '..Said'. Prove '..Said' where nothing that the law and all that it calls make is longer than what came in: it says more and counts as full. Else prove '..UptoSaid'. A law counts once. -/
mutual
def uptoBulk {H : Type} : DataW H → Nat
  | .lit (.string bytes) => bytes.length + 1
  | .lit _ => 1
  | .nil => 1
  | .ptr d => uptoBulk d + 1
  | .slice elems spare => uptoBulkAll elems + uptoBulkAll spare + 1
  | .agg parts => uptoBulkAll parts + 1
  | .iface _ d => uptoBulk d + 1
  | .map entries => uptoBulkEntries entries + 1
  | .held _ => 1
def uptoBulkAll {H : Type} : List (DataW H) → Nat
  | [] => 0
  | d :: r => uptoBulk d + uptoBulkAll r
def uptoBulkEntries {H : Type} : List (Lit × DataW H) → Nat
  | [] => 0
  | x :: r => uptoBulkEntry x + uptoBulkEntries r
def uptoBulkEntry {H : Type} : Lit × DataW H → Nat
  | (.string bytes, d) => bytes.length + uptoBulk d + 1
  | (_, d) => uptoBulk d + 1
 end
def uptoSmall : (H : Type) → List (DataW H) → Bool := fun _ ds => decide (uptoBulkAll ds ≤ 1048576)
def OpenSpec.upto (s : _root_.Go.ChangeSpec) : _root_.Go.OpenSpec := { _root_.Go.OpenSpec.ofChange s with cond := some uptoSmall }

/-- 'torchonlaw28.UndoAbove', WHERE WHAT IT READS IS OF BULK AT MOST 1048576: true; the input reads as it did. -/
def undoAboveUptoRow : OpenClaim := { program := "ytnjenggijmbhcaa", sum := "0cc27f89de5f312e0988540f0bdb86f2379c616ac6b431a9783f58d808a80f66", func := "torchon/torchonlaw28.UndoAbove", spec := "undoAbove", inPlace := ["internal/bytealg.IndexByteString"], unfollowed := true, recurses := true, apart := false, narrowed := true }
def UndoAboveUptoSaid : Prop := undoAboveUptoRow.holds Try.pinned (OpenSpec.upto undoAboveSpec)

/-- 'torchonlaw28.UndoNet', WHERE WHAT IT READS IS OF BULK AT MOST 1048576: true; the input reads as it did. -/
def undoNetUptoRow : OpenClaim := { program := "ytnjenggijmbhcaa", sum := "0cc27f89de5f312e0988540f0bdb86f2379c616ac6b431a9783f58d808a80f66", func := "torchon/torchonlaw28.UndoNet", spec := "undoNet", inPlace := ["internal/bytealg.IndexByteString"], unfollowed := true, recurses := true, apart := false, narrowed := true }
def UndoNetUptoSaid : Prop := undoNetUptoRow.holds Try.pinned (OpenSpec.upto undoNetSpec)

/-- 'torchonlaw28.UndoAll', WHERE WHAT IT READS IS OF BULK AT MOST 1048576: true; the input reads as it did. -/
def undoAllUptoRow : OpenClaim := { program := "ytnjenggijmbhcaa", sum := "0cc27f89de5f312e0988540f0bdb86f2379c616ac6b431a9783f58d808a80f66", func := "torchon/torchonlaw28.UndoAll", spec := "undoAll", inPlace := ["internal/bytealg.IndexByteString"], unfollowed := true, recurses := true, apart := false, narrowed := true }
def UndoAllUptoSaid : Prop := undoAllUptoRow.holds Try.pinned (OpenSpec.upto undoAllSpec)

/-- 'torchonlaw28.UndoLeast', WHERE WHAT IT READS IS OF BULK AT MOST 1048576: true; the input reads as it did. -/
def undoLeastUptoRow : OpenClaim := { program := "ytnjenggijmbhcaa", sum := "0cc27f89de5f312e0988540f0bdb86f2379c616ac6b431a9783f58d808a80f66", func := "torchon/torchonlaw28.UndoLeast", spec := "undoLeast", inPlace := ["internal/bytealg.IndexByteString"], unfollowed := true, recurses := true, apart := false, narrowed := true }
def UndoLeastUptoSaid : Prop := undoLeastUptoRow.holds Try.pinned (OpenSpec.upto undoLeastSpec)

/-- 'torchonlaw28.UndoBraid', WHERE WHAT IT READS IS OF BULK AT MOST 1048576: true; the input reads as it did. -/
def undoBraidUptoRow : OpenClaim := { program := "ytnjenggijmbhcaa", sum := "0cc27f89de5f312e0988540f0bdb86f2379c616ac6b431a9783f58d808a80f66", func := "torchon/torchonlaw28.UndoBraid", spec := "undoBraid", inPlace := ["internal/bytealg.IndexByteString"], unfollowed := true, recurses := true, apart := false, narrowed := true }
def UndoBraidUptoSaid : Prop := undoBraidUptoRow.holds Try.pinned (OpenSpec.upto undoBraidSpec)

/-- 'torchonlaw28.UndoKnown', WHERE WHAT IT READS IS OF BULK AT MOST 1048576: true; the input reads as it did. -/
def undoKnownUptoRow : OpenClaim := { program := "ytnjenggijmbhcaa", sum := "0cc27f89de5f312e0988540f0bdb86f2379c616ac6b431a9783f58d808a80f66", func := "torchon/torchonlaw28.UndoKnown", spec := "undoKnown", inPlace := ["internal/bytealg.IndexByteString"], unfollowed := true, recurses := true, apart := false, narrowed := true }
def UndoKnownUptoSaid : Prop := undoKnownUptoRow.holds Try.pinned (OpenSpec.upto undoKnownSpec)

/-- 'torchonlaw28.UndoRight', WHERE WHAT IT READS IS OF BULK AT MOST 1048576: true; the input reads as it did. -/
def undoRightUptoRow : OpenClaim := { program := "ytnjenggijmbhcaa", sum := "0cc27f89de5f312e0988540f0bdb86f2379c616ac6b431a9783f58d808a80f66", func := "torchon/torchonlaw28.UndoRight", spec := "undoRight", inPlace := ["internal/bytealg.IndexByteString"], unfollowed := true, recurses := true, apart := false, narrowed := true }
def UndoRightUptoSaid : Prop := undoRightUptoRow.holds Try.pinned (OpenSpec.upto undoRightSpec)

/-- 'torchonlaw28.UndoPlans', WHERE WHAT IT READS IS OF BULK AT MOST 1048576: true; the input reads as it did. -/
def undoPlansUptoRow : OpenClaim := { program := "ytnjenggijmbhcaa", sum := "0cc27f89de5f312e0988540f0bdb86f2379c616ac6b431a9783f58d808a80f66", func := "torchon/torchonlaw28.UndoPlans", spec := "undoPlans", inPlace := ["internal/bytealg.IndexByteString"], unfollowed := true, recurses := true, apart := false, narrowed := true }
def UndoPlansUptoSaid : Prop := undoPlansUptoRow.holds Try.pinned (OpenSpec.upto undoPlansSpec)

end Rows
end Go.Proofs.Ytnjenggijmbhcaa
