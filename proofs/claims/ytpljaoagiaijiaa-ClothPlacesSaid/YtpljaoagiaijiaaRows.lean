/-
  No cell of these rows narrows 'for every input' (looked for: loops, veiled, ifaces, maps, wideKeys, modest, calm, conditions, laid).
  DERIVED. THE GIVEN ROWS OF THIS SEAT. 6 by the template 'for every input the law returns true; each argument reads behind the call as it read before'; 0 by the template 'total and deterministic' (their statements: YtpljaoagiaijiaaTotals.lean).
  GIVEN WITH THE SEED: the statements are not yours to turn. If you find one false, say at which input.
  Laid BY PROGRAM, IN A SANDBOX (cutbox-rows.mjs): the forced cells as the released guide's own fill.sh prints them over the translation 0c861f26475c6624… (all of the seat's roots in one cut). By AI agents, Wed Nov 11 2026. No macro, syntax, notation, axiom, sorry.
-/
import Derived.Test.YtpljaoagiaijiaaChecked
import GoSem.Claim
import GoSem.ClaimJoined
import GoSem.ClaimMapViews
import Derived.JoinedTies
import Derived.KernelRfl
namespace Go.Proofs.Ytpljaoagiaijiaa
/- THE CELL 'sum', in the pinned program and in every row, IS THE sha256 OF THE DUMP (.gsa) THAT YtpljaoagiaijiaaProg.lean LOADS. Nothing in Lean hashes anything: it is a label: what it is worth is what the hold of that sum in a sandbox is worth. -/
noncomputable def Try.pinned : Pinned := { name := "ytpljaoagiaijiaa", sum := "0c861f26475c662485262ff719fafa44f83799103ce2991658c98ce844adf028", checked := Try.checked }
namespace Rows
def none {H : Type} : Left H := { results := [], args := [] }

/-- 'torchonlaw17.ClothMakes': WHATEVER THE INPUT: true; the input reads as it did. -/
def clothMakesSpec : ChangeSpec := { name := "clothMakes", fn := fun _ => fun
  | [d] => { results := [.lit (.bool true)], args := [d] }
  | _ => none }
def clothMakesRow : OpenClaim := { program := "ytpljaoagiaijiaa", sum := "0c861f26475c662485262ff719fafa44f83799103ce2991658c98ce844adf028", func := "torchon/torchonlaw17.ClothMakes", spec := "clothMakes", inPlace := ["internal/bytealg.IndexByteString"], unfollowed := true, recurses := true, apart := false }
def ClothMakesSaid : Prop := clothMakesRow.holds Try.pinned (OpenSpec.ofChange clothMakesSpec)

/-- ITS FALSE NEIGHBOUR: 'it returns false'. Refute it at one input. -/
def clothMakesWrong : ChangeSpec := { name := "clothMakes", fn := fun _ => fun
  | [d] => { results := [.lit (.bool false)], args := [d] }
  | _ => none }
def ClothMakesWrongFalsely : Prop := clothMakesRow.holds Try.pinned (OpenSpec.ofChange clothMakesWrong)

/-- 'torchonlaw17.ClothAny': WHATEVER THE INPUT: true; the input reads as it did. -/
def clothAnySpec : ChangeSpec := { name := "clothAny", fn := fun _ => fun
  | [d1, d2] => { results := [.lit (.bool true)], args := [d1, d2] }
  | _ => none }
def clothAnyRow : OpenClaim := { program := "ytpljaoagiaijiaa", sum := "0c861f26475c662485262ff719fafa44f83799103ce2991658c98ce844adf028", func := "torchon/torchonlaw17.ClothAny", spec := "clothAny", inPlace := ["internal/bytealg.IndexByteString"], unfollowed := true, recurses := true, apart := false }
def ClothAnySaid : Prop := clothAnyRow.holds Try.pinned (OpenSpec.ofChange clothAnySpec)

/-- ITS FALSE NEIGHBOUR: 'it returns false'. Refute it at one input. -/
def clothAnyWrong : ChangeSpec := { name := "clothAny", fn := fun _ => fun
  | [d1, d2] => { results := [.lit (.bool false)], args := [d1, d2] }
  | _ => none }
def ClothAnyWrongFalsely : Prop := clothAnyRow.holds Try.pinned (OpenSpec.ofChange clothAnyWrong)

/-- 'torchonlaw17.ClothSums': WHATEVER THE INPUT: true; the input reads as it did. -/
def clothSumsSpec : ChangeSpec := { name := "clothSums", fn := fun _ => fun
  | [d1, d2, d3] => { results := [.lit (.bool true)], args := [d1, d2, d3] }
  | _ => none }
def clothSumsRow : OpenClaim := { program := "ytpljaoagiaijiaa", sum := "0c861f26475c662485262ff719fafa44f83799103ce2991658c98ce844adf028", func := "torchon/torchonlaw17.ClothSums", spec := "clothSums", inPlace := ["internal/bytealg.IndexByteString"], unfollowed := true, recurses := true, apart := false }
def ClothSumsSaid : Prop := clothSumsRow.holds Try.pinned (OpenSpec.ofChange clothSumsSpec)

/-- ITS FALSE NEIGHBOUR: 'it returns false'. Refute it at one input. -/
def clothSumsWrong : ChangeSpec := { name := "clothSums", fn := fun _ => fun
  | [d1, d2, d3] => { results := [.lit (.bool false)], args := [d1, d2, d3] }
  | _ => none }
def ClothSumsWrongFalsely : Prop := clothSumsRow.holds Try.pinned (OpenSpec.ofChange clothSumsWrong)

/-- 'torchonlaw17.ClothThreads': WHATEVER THE INPUT: true; the input reads as it did. -/
def clothThreadsSpec : ChangeSpec := { name := "clothThreads", fn := fun _ => fun
  | [d1, d2, d3] => { results := [.lit (.bool true)], args := [d1, d2, d3] }
  | _ => none }
def clothThreadsRow : OpenClaim := { program := "ytpljaoagiaijiaa", sum := "0c861f26475c662485262ff719fafa44f83799103ce2991658c98ce844adf028", func := "torchon/torchonlaw17.ClothThreads", spec := "clothThreads", inPlace := ["internal/bytealg.IndexByteString"], unfollowed := true, recurses := true, apart := false }
def ClothThreadsSaid : Prop := clothThreadsRow.holds Try.pinned (OpenSpec.ofChange clothThreadsSpec)

/-- ITS FALSE NEIGHBOUR: 'it returns false'. Refute it at one input. -/
def clothThreadsWrong : ChangeSpec := { name := "clothThreads", fn := fun _ => fun
  | [d1, d2, d3] => { results := [.lit (.bool false)], args := [d1, d2, d3] }
  | _ => none }
def ClothThreadsWrongFalsely : Prop := clothThreadsRow.holds Try.pinned (OpenSpec.ofChange clothThreadsWrong)

/-- 'torchonlaw17.ClothPlaces': WHATEVER THE INPUT: true; the input reads as it did. -/
def clothPlacesSpec : ChangeSpec := { name := "clothPlaces", fn := fun _ => fun
  | [d] => { results := [.lit (.bool true)], args := [d] }
  | _ => none }
def clothPlacesRow : OpenClaim := { program := "ytpljaoagiaijiaa", sum := "0c861f26475c662485262ff719fafa44f83799103ce2991658c98ce844adf028", func := "torchon/torchonlaw17.ClothPlaces", spec := "clothPlaces", inPlace := ["internal/bytealg.IndexByteString"], unfollowed := true, recurses := true, apart := false }
def ClothPlacesSaid : Prop := clothPlacesRow.holds Try.pinned (OpenSpec.ofChange clothPlacesSpec)

/-- ITS FALSE NEIGHBOUR: 'it returns false'. Refute it at one input. -/
def clothPlacesWrong : ChangeSpec := { name := "clothPlaces", fn := fun _ => fun
  | [d] => { results := [.lit (.bool false)], args := [d] }
  | _ => none }
def ClothPlacesWrongFalsely : Prop := clothPlacesRow.holds Try.pinned (OpenSpec.ofChange clothPlacesWrong)

/-- 'torchonlaw17.ClothChecks': WHATEVER THE INPUT: true; the input reads as it did. -/
def clothChecksSpec : ChangeSpec := { name := "clothChecks", fn := fun _ => fun
  | [d] => { results := [.lit (.bool true)], args := [d] }
  | _ => none }
def clothChecksRow : OpenClaim := { program := "ytpljaoagiaijiaa", sum := "0c861f26475c662485262ff719fafa44f83799103ce2991658c98ce844adf028", func := "torchon/torchonlaw17.ClothChecks", spec := "clothChecks", inPlace := ["internal/bytealg.IndexByteString"], unfollowed := true, recurses := true, apart := false }
def ClothChecksSaid : Prop := clothChecksRow.holds Try.pinned (OpenSpec.ofChange clothChecksSpec)

/-- ITS FALSE NEIGHBOUR: 'it returns false'. Refute it at one input. -/
def clothChecksWrong : ChangeSpec := { name := "clothChecks", fn := fun _ => fun
  | [d] => { results := [.lit (.bool false)], args := [d] }
  | _ => none }
def ClothChecksWrongFalsely : Prop := clothChecksRow.holds Try.pinned (OpenSpec.ofChange clothChecksWrong)

/- THE SECOND FORM. 'bulk': how many values and letters a reading holds, each counted each time it is reached (what is shared counts as often as it is met; a slice's spare places count too). A statement '..UptoSaid' is the law's where the arguments, and the package variables that the reading takes, are together of bulk at most 1048576: NARROWER than '..Said'. Prove '..Said' where nothing that the law and all that it calls make is longer than what came in: it says more and counts as full. Else prove '..UptoSaid'. A law counts once. -/
mutual
def uptoBulk {H : Type} : DataW H → Nat
  | .lit (.string bytes) => bytes.length + 1
  | .lit _ => 1
  | .nil => 1
  | .ptr d => uptoBulk d + 1
  | .slice elems spare => uptoBulkAll elems + uptoBulkAll spare + 1
  | .agg parts => uptoBulkAll parts + 1
  | .iface _ d => uptoBulk d + 1
  | .map entries => uptoBulkEntries entries + 1
  | .held _ => 1
def uptoBulkAll {H : Type} : List (DataW H) → Nat
  | [] => 0
  | d :: r => uptoBulk d + uptoBulkAll r
def uptoBulkEntries {H : Type} : List (Lit × DataW H) → Nat
  | [] => 0
  | x :: r => uptoBulkEntry x + uptoBulkEntries r
def uptoBulkEntry {H : Type} : Lit × DataW H → Nat
  | (.string bytes, d) => bytes.length + uptoBulk d + 1
  | (_, d) => uptoBulk d + 1
 end
def uptoSmall : (H : Type) → List (DataW H) → Bool := fun _ ds => decide (uptoBulkAll ds ≤ 1048576)
def OpenSpec.upto (s : _root_.Go.ChangeSpec) : _root_.Go.OpenSpec := { _root_.Go.OpenSpec.ofChange s with cond := some uptoSmall }

/-- 'torchonlaw17.ClothMakes', WHERE WHAT IT READS IS OF BULK AT MOST 1048576: true; the input reads as it did. -/
def clothMakesUptoRow : OpenClaim := { program := "ytpljaoagiaijiaa", sum := "0c861f26475c662485262ff719fafa44f83799103ce2991658c98ce844adf028", func := "torchon/torchonlaw17.ClothMakes", spec := "clothMakes", inPlace := ["internal/bytealg.IndexByteString"], unfollowed := true, recurses := true, apart := false, narrowed := true }
def ClothMakesUptoSaid : Prop := clothMakesUptoRow.holds Try.pinned (OpenSpec.upto clothMakesSpec)

/-- 'torchonlaw17.ClothAny', WHERE WHAT IT READS IS OF BULK AT MOST 1048576: true; the input reads as it did. -/
def clothAnyUptoRow : OpenClaim := { program := "ytpljaoagiaijiaa", sum := "0c861f26475c662485262ff719fafa44f83799103ce2991658c98ce844adf028", func := "torchon/torchonlaw17.ClothAny", spec := "clothAny", inPlace := ["internal/bytealg.IndexByteString"], unfollowed := true, recurses := true, apart := false, narrowed := true }
def ClothAnyUptoSaid : Prop := clothAnyUptoRow.holds Try.pinned (OpenSpec.upto clothAnySpec)

/-- 'torchonlaw17.ClothSums', WHERE WHAT IT READS IS OF BULK AT MOST 1048576: true; the input reads as it did. -/
def clothSumsUptoRow : OpenClaim := { program := "ytpljaoagiaijiaa", sum := "0c861f26475c662485262ff719fafa44f83799103ce2991658c98ce844adf028", func := "torchon/torchonlaw17.ClothSums", spec := "clothSums", inPlace := ["internal/bytealg.IndexByteString"], unfollowed := true, recurses := true, apart := false, narrowed := true }
def ClothSumsUptoSaid : Prop := clothSumsUptoRow.holds Try.pinned (OpenSpec.upto clothSumsSpec)

/-- 'torchonlaw17.ClothThreads', WHERE WHAT IT READS IS OF BULK AT MOST 1048576: true; the input reads as it did. -/
def clothThreadsUptoRow : OpenClaim := { program := "ytpljaoagiaijiaa", sum := "0c861f26475c662485262ff719fafa44f83799103ce2991658c98ce844adf028", func := "torchon/torchonlaw17.ClothThreads", spec := "clothThreads", inPlace := ["internal/bytealg.IndexByteString"], unfollowed := true, recurses := true, apart := false, narrowed := true }
def ClothThreadsUptoSaid : Prop := clothThreadsUptoRow.holds Try.pinned (OpenSpec.upto clothThreadsSpec)

/-- 'torchonlaw17.ClothPlaces', WHERE WHAT IT READS IS OF BULK AT MOST 1048576: true; the input reads as it did. -/
def clothPlacesUptoRow : OpenClaim := { program := "ytpljaoagiaijiaa", sum := "0c861f26475c662485262ff719fafa44f83799103ce2991658c98ce844adf028", func := "torchon/torchonlaw17.ClothPlaces", spec := "clothPlaces", inPlace := ["internal/bytealg.IndexByteString"], unfollowed := true, recurses := true, apart := false, narrowed := true }
def ClothPlacesUptoSaid : Prop := clothPlacesUptoRow.holds Try.pinned (OpenSpec.upto clothPlacesSpec)

/-- 'torchonlaw17.ClothChecks', WHERE WHAT IT READS IS OF BULK AT MOST 1048576: true; the input reads as it did. -/
def clothChecksUptoRow : OpenClaim := { program := "ytpljaoagiaijiaa", sum := "0c861f26475c662485262ff719fafa44f83799103ce2991658c98ce844adf028", func := "torchon/torchonlaw17.ClothChecks", spec := "clothChecks", inPlace := ["internal/bytealg.IndexByteString"], unfollowed := true, recurses := true, apart := false, narrowed := true }
def ClothChecksUptoSaid : Prop := clothChecksUptoRow.holds Try.pinned (OpenSpec.upto clothChecksSpec)

end Rows
end Go.Proofs.Ytpljaoagiaijiaa
