/-
  No cell of these rows narrows 'for every input' (looked for: loops, veiled, ifaces, maps, wideKeys, modest, calm, conditions, laid).
  DERIVED. THE GIVEN ROWS OF THIS SEAT. 6 by the template 'for every input the law returns true; each argument reads behind the call as it read before'; 0 by the template 'total and deterministic' (their statements: YtaenafcecfdffaaTotals.lean).
  GIVEN WITH THE SEED: the statements are not yours to turn. If you find one false, say at which input.
  Laid BY PROGRAM, IN A SANDBOX (cutbox-rows.mjs): the forced cells as the released guide's own fill.sh prints them over the translation 00358abc2cc1205b… (all of the seat's roots in one cut). By AI agents, Wed Nov 11 2026. No macro, syntax, notation, axiom, sorry.
-/
import Derived.Test.YtaenafcecfdffaaChecked
import GoSem.Claim
import GoSem.ClaimJoined
import GoSem.ClaimMapViews
import Derived.JoinedTies
import Derived.KernelRfl
namespace Go.Proofs.Ytaenafcecfdffaa
/- THE CELL 'sum', in the pinned program and in every row, IS THE sha256 OF THE DUMP (.gsa) THAT YtaenafcecfdffaaProg.lean LOADS. Nothing in Lean hashes anything: it is a label: what it is worth is what the hold of that sum in a sandbox is worth. -/
noncomputable def Try.pinned : Pinned := { name := "ytaenafcecfdffaa", sum := "00358abc2cc1205b12496192a6d4a1683bf1f05f2ee25d3aadbd5d803ef9e7c1", checked := Try.checked }
namespace Rows
def none {H : Type} : Left H := { results := [], args := [] }

/-- 'torchonlaw16.PillowMakes': WHATEVER THE INPUT: true; the input reads as it did. -/
def pillowMakesSpec : ChangeSpec := { name := "pillowMakes", fn := fun _ => fun
  | [d1, d2] => { results := [.lit (.bool true)], args := [d1, d2] }
  | _ => none }
def pillowMakesRow : OpenClaim := { program := "ytaenafcecfdffaa", sum := "00358abc2cc1205b12496192a6d4a1683bf1f05f2ee25d3aadbd5d803ef9e7c1", func := "torchon/torchonlaw16.PillowMakes", spec := "pillowMakes", inPlace := ["internal/bytealg.IndexByteString"], unfollowed := true, recurses := true, apart := false }
def PillowMakesSaid : Prop := pillowMakesRow.holds Try.pinned (OpenSpec.ofChange pillowMakesSpec)

/-- ITS FALSE NEIGHBOUR: 'it returns false'. Refute it at one input. -/
def pillowMakesWrong : ChangeSpec := { name := "pillowMakes", fn := fun _ => fun
  | [d1, d2] => { results := [.lit (.bool false)], args := [d1, d2] }
  | _ => none }
def PillowMakesWrongFalsely : Prop := pillowMakesRow.holds Try.pinned (OpenSpec.ofChange pillowMakesWrong)

/-- 'torchonlaw16.PillowThreads': WHATEVER THE INPUT: true; the input reads as it did. -/
def pillowThreadsSpec : ChangeSpec := { name := "pillowThreads", fn := fun _ => fun
  | [d1, d2] => { results := [.lit (.bool true)], args := [d1, d2] }
  | _ => none }
def pillowThreadsRow : OpenClaim := { program := "ytaenafcecfdffaa", sum := "00358abc2cc1205b12496192a6d4a1683bf1f05f2ee25d3aadbd5d803ef9e7c1", func := "torchon/torchonlaw16.PillowThreads", spec := "pillowThreads", inPlace := ["internal/bytealg.IndexByteString"], unfollowed := true, recurses := true, apart := false }
def PillowThreadsSaid : Prop := pillowThreadsRow.holds Try.pinned (OpenSpec.ofChange pillowThreadsSpec)

/-- ITS FALSE NEIGHBOUR: 'it returns false'. Refute it at one input. -/
def pillowThreadsWrong : ChangeSpec := { name := "pillowThreads", fn := fun _ => fun
  | [d1, d2] => { results := [.lit (.bool false)], args := [d1, d2] }
  | _ => none }
def PillowThreadsWrongFalsely : Prop := pillowThreadsRow.holds Try.pinned (OpenSpec.ofChange pillowThreadsWrong)

/-- 'torchonlaw16.PillowKnown': WHATEVER THE INPUT: true; the input reads as it did. -/
def pillowKnownSpec : ChangeSpec := { name := "pillowKnown", fn := fun _ => fun
  | [] => { results := [.lit (.bool true)], args := [] }
  | _ => none }
def pillowKnownRow : OpenClaim := { program := "ytaenafcecfdffaa", sum := "00358abc2cc1205b12496192a6d4a1683bf1f05f2ee25d3aadbd5d803ef9e7c1", func := "torchon/torchonlaw16.PillowKnown", spec := "pillowKnown", inPlace := ["internal/bytealg.IndexByteString"], unfollowed := true, recurses := true, apart := false }
def PillowKnownSaid : Prop := pillowKnownRow.holds Try.pinned (OpenSpec.ofChange pillowKnownSpec)

/-- ITS FALSE NEIGHBOUR: 'it returns false'. Refute it at one input. -/
def pillowKnownWrong : ChangeSpec := { name := "pillowKnown", fn := fun _ => fun
  | [] => { results := [.lit (.bool false)], args := [] }
  | _ => none }
def PillowKnownWrongFalsely : Prop := pillowKnownRow.holds Try.pinned (OpenSpec.ofChange pillowKnownWrong)

/-- 'torchonlaw16.PillowLoads': WHATEVER THE INPUT: true; the input reads as it did. -/
def pillowLoadsSpec : ChangeSpec := { name := "pillowLoads", fn := fun _ => fun
  | [d] => { results := [.lit (.bool true)], args := [d] }
  | _ => none }
def pillowLoadsRow : OpenClaim := { program := "ytaenafcecfdffaa", sum := "00358abc2cc1205b12496192a6d4a1683bf1f05f2ee25d3aadbd5d803ef9e7c1", func := "torchon/torchonlaw16.PillowLoads", spec := "pillowLoads", inPlace := ["internal/bytealg.IndexByteString"], unfollowed := true, recurses := true, apart := false }
def PillowLoadsSaid : Prop := pillowLoadsRow.holds Try.pinned (OpenSpec.ofChange pillowLoadsSpec)

/-- ITS FALSE NEIGHBOUR: 'it returns false'. Refute it at one input. -/
def pillowLoadsWrong : ChangeSpec := { name := "pillowLoads", fn := fun _ => fun
  | [d] => { results := [.lit (.bool false)], args := [d] }
  | _ => none }
def PillowLoadsWrongFalsely : Prop := pillowLoadsRow.holds Try.pinned (OpenSpec.ofChange pillowLoadsWrong)

/-- 'torchonlaw16.PillowBreaks': WHATEVER THE INPUT: true; the input reads as it did. -/
def pillowBreaksSpec : ChangeSpec := { name := "pillowBreaks", fn := fun _ => fun
  | [d1, d2, d3] => { results := [.lit (.bool true)], args := [d1, d2, d3] }
  | _ => none }
def pillowBreaksRow : OpenClaim := { program := "ytaenafcecfdffaa", sum := "00358abc2cc1205b12496192a6d4a1683bf1f05f2ee25d3aadbd5d803ef9e7c1", func := "torchon/torchonlaw16.PillowBreaks", spec := "pillowBreaks", inPlace := ["internal/bytealg.IndexByteString"], unfollowed := true, recurses := true, apart := false }
def PillowBreaksSaid : Prop := pillowBreaksRow.holds Try.pinned (OpenSpec.ofChange pillowBreaksSpec)

/-- ITS FALSE NEIGHBOUR: 'it returns false'. Refute it at one input. -/
def pillowBreaksWrong : ChangeSpec := { name := "pillowBreaks", fn := fun _ => fun
  | [d1, d2, d3] => { results := [.lit (.bool false)], args := [d1, d2, d3] }
  | _ => none }
def PillowBreaksWrongFalsely : Prop := pillowBreaksRow.holds Try.pinned (OpenSpec.ofChange pillowBreaksWrong)

/-- 'torchonlaw16.PillowBack': WHATEVER THE INPUT: true; the input reads as it did. -/
def pillowBackSpec : ChangeSpec := { name := "pillowBack", fn := fun _ => fun
  | [d1, d2, d3] => { results := [.lit (.bool true)], args := [d1, d2, d3] }
  | _ => none }
def pillowBackRow : OpenClaim := { program := "ytaenafcecfdffaa", sum := "00358abc2cc1205b12496192a6d4a1683bf1f05f2ee25d3aadbd5d803ef9e7c1", func := "torchon/torchonlaw16.PillowBack", spec := "pillowBack", inPlace := ["internal/bytealg.IndexByteString"], unfollowed := true, recurses := true, apart := false }
def PillowBackSaid : Prop := pillowBackRow.holds Try.pinned (OpenSpec.ofChange pillowBackSpec)

/-- ITS FALSE NEIGHBOUR: 'it returns false'. Refute it at one input. -/
def pillowBackWrong : ChangeSpec := { name := "pillowBack", fn := fun _ => fun
  | [d1, d2, d3] => { results := [.lit (.bool false)], args := [d1, d2, d3] }
  | _ => none }
def PillowBackWrongFalsely : Prop := pillowBackRow.holds Try.pinned (OpenSpec.ofChange pillowBackWrong)

/- THE SECOND FORM. 'bulk': how many values and letters a reading holds, each counted each time it is reached (what is shared counts as often as it is met; a slice's spare places count too). A statement '..UptoSaid' is the law's where the arguments, and the package variables that the reading takes, are together of bulk at most 1048576: NARROWER than '..Said'. Prove '..Said' where nothing that the law and all that it calls make is longer than what came in: it says more and counts as full. Else prove '..UptoSaid'. A law counts once. -/
mutual
def uptoBulk {H : Type} : DataW H → Nat
  | .lit (.string bytes) => bytes.length + 1
  | .lit _ => 1
  | .nil => 1
  | .ptr d => uptoBulk d + 1
  | .slice elems spare => uptoBulkAll elems + uptoBulkAll spare + 1
  | .agg parts => uptoBulkAll parts + 1
  | .iface _ d => uptoBulk d + 1
  | .map entries => uptoBulkEntries entries + 1
  | .held _ => 1
def uptoBulkAll {H : Type} : List (DataW H) → Nat
  | [] => 0
  | d :: r => uptoBulk d + uptoBulkAll r
def uptoBulkEntries {H : Type} : List (Lit × DataW H) → Nat
  | [] => 0
  | x :: r => uptoBulkEntry x + uptoBulkEntries r
def uptoBulkEntry {H : Type} : Lit × DataW H → Nat
  | (.string bytes, d) => bytes.length + uptoBulk d + 1
  | (_, d) => uptoBulk d + 1
 end
def uptoSmall : (H : Type) → List (DataW H) → Bool := fun _ ds => decide (uptoBulkAll ds ≤ 1048576)
def OpenSpec.upto (s : _root_.Go.ChangeSpec) : _root_.Go.OpenSpec := { _root_.Go.OpenSpec.ofChange s with cond := some uptoSmall }

/-- 'torchonlaw16.PillowMakes', WHERE WHAT IT READS IS OF BULK AT MOST 1048576: true; the input reads as it did. -/
def pillowMakesUptoRow : OpenClaim := { program := "ytaenafcecfdffaa", sum := "00358abc2cc1205b12496192a6d4a1683bf1f05f2ee25d3aadbd5d803ef9e7c1", func := "torchon/torchonlaw16.PillowMakes", spec := "pillowMakes", inPlace := ["internal/bytealg.IndexByteString"], unfollowed := true, recurses := true, apart := false, narrowed := true }
def PillowMakesUptoSaid : Prop := pillowMakesUptoRow.holds Try.pinned (OpenSpec.upto pillowMakesSpec)

/-- 'torchonlaw16.PillowThreads', WHERE WHAT IT READS IS OF BULK AT MOST 1048576: true; the input reads as it did. -/
def pillowThreadsUptoRow : OpenClaim := { program := "ytaenafcecfdffaa", sum := "00358abc2cc1205b12496192a6d4a1683bf1f05f2ee25d3aadbd5d803ef9e7c1", func := "torchon/torchonlaw16.PillowThreads", spec := "pillowThreads", inPlace := ["internal/bytealg.IndexByteString"], unfollowed := true, recurses := true, apart := false, narrowed := true }
def PillowThreadsUptoSaid : Prop := pillowThreadsUptoRow.holds Try.pinned (OpenSpec.upto pillowThreadsSpec)

/-- 'torchonlaw16.PillowKnown', WHERE WHAT IT READS IS OF BULK AT MOST 1048576: true; the input reads as it did. -/
def pillowKnownUptoRow : OpenClaim := { program := "ytaenafcecfdffaa", sum := "00358abc2cc1205b12496192a6d4a1683bf1f05f2ee25d3aadbd5d803ef9e7c1", func := "torchon/torchonlaw16.PillowKnown", spec := "pillowKnown", inPlace := ["internal/bytealg.IndexByteString"], unfollowed := true, recurses := true, apart := false, narrowed := true }
def PillowKnownUptoSaid : Prop := pillowKnownUptoRow.holds Try.pinned (OpenSpec.upto pillowKnownSpec)

/-- 'torchonlaw16.PillowLoads', WHERE WHAT IT READS IS OF BULK AT MOST 1048576: true; the input reads as it did. -/
def pillowLoadsUptoRow : OpenClaim := { program := "ytaenafcecfdffaa", sum := "00358abc2cc1205b12496192a6d4a1683bf1f05f2ee25d3aadbd5d803ef9e7c1", func := "torchon/torchonlaw16.PillowLoads", spec := "pillowLoads", inPlace := ["internal/bytealg.IndexByteString"], unfollowed := true, recurses := true, apart := false, narrowed := true }
def PillowLoadsUptoSaid : Prop := pillowLoadsUptoRow.holds Try.pinned (OpenSpec.upto pillowLoadsSpec)

/-- 'torchonlaw16.PillowBreaks', WHERE WHAT IT READS IS OF BULK AT MOST 1048576: true; the input reads as it did. -/
def pillowBreaksUptoRow : OpenClaim := { program := "ytaenafcecfdffaa", sum := "00358abc2cc1205b12496192a6d4a1683bf1f05f2ee25d3aadbd5d803ef9e7c1", func := "torchon/torchonlaw16.PillowBreaks", spec := "pillowBreaks", inPlace := ["internal/bytealg.IndexByteString"], unfollowed := true, recurses := true, apart := false, narrowed := true }
def PillowBreaksUptoSaid : Prop := pillowBreaksUptoRow.holds Try.pinned (OpenSpec.upto pillowBreaksSpec)

/-- 'torchonlaw16.PillowBack', WHERE WHAT IT READS IS OF BULK AT MOST 1048576: true; the input reads as it did. -/
def pillowBackUptoRow : OpenClaim := { program := "ytaenafcecfdffaa", sum := "00358abc2cc1205b12496192a6d4a1683bf1f05f2ee25d3aadbd5d803ef9e7c1", func := "torchon/torchonlaw16.PillowBack", spec := "pillowBack", inPlace := ["internal/bytealg.IndexByteString"], unfollowed := true, recurses := true, apart := false, narrowed := true }
def PillowBackUptoSaid : Prop := pillowBackUptoRow.holds Try.pinned (OpenSpec.upto pillowBackSpec)

end Rows
end Go.Proofs.Ytaenafcecfdffaa
