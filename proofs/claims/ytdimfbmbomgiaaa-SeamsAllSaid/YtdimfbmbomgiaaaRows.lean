/-
  No cell of these rows narrows 'for every input' (looked for: loops, veiled, ifaces, maps, wideKeys, modest, calm, conditions, laid).
  DERIVED. THE GIVEN ROWS OF THIS SEAT. 6 by the template 'for every input the law returns true; each argument reads behind the call as it read before'; 0 by the template 'total and deterministic' (their statements: YtdimfbmbomgiaaaTotals.lean).
  GIVEN WITH THE SEED: the statements are not yours to turn. If you find one false, say at which input.
  Laid BY PROGRAM, IN A SANDBOX (cutbox-rows.mjs): the forced cells as the released guide's own fill.sh prints them over the translation cbfeee81394854eb… (all of the seat's roots in one cut). By AI agents, Wed Nov 11 2026. No macro, syntax, notation, axiom, sorry.
-/
import Derived.Test.YtdimfbmbomgiaaaChecked
import GoSem.Claim
import GoSem.ClaimJoined
import GoSem.ClaimMapViews
import Derived.JoinedTies
import Derived.KernelRfl
namespace Go.Proofs.Ytdimfbmbomgiaaa
/- THE CELL 'sum', in the pinned program and in every row, IS THE sha256 OF THE DUMP (.gsa) THAT YtdimfbmbomgiaaaProg.lean LOADS. Nothing in Lean hashes anything: it is a label: what it is worth is what the hold of that sum in a sandbox is worth. -/
noncomputable def Try.pinned : Pinned := { name := "ytdimfbmbomgiaaa", sum := "cbfeee81394854eb3cb9fcc730cec2d6190a69a38f347d71f71c320ba38ef63f", checked := Try.checked }
namespace Rows
def none {H : Type} : Left H := { results := [], args := [] }

/-- 'torchonlaw24.SeamsRepeat': WHATEVER THE INPUT: true; the input reads as it did. -/
def seamsRepeatSpec : ChangeSpec := { name := "seamsRepeat", fn := fun _ => fun
  | [d1, d2] => { results := [.lit (.bool true)], args := [d1, d2] }
  | _ => none }
def seamsRepeatRow : OpenClaim := { program := "ytdimfbmbomgiaaa", sum := "cbfeee81394854eb3cb9fcc730cec2d6190a69a38f347d71f71c320ba38ef63f", func := "torchon/torchonlaw24.SeamsRepeat", spec := "seamsRepeat", inPlace := ["internal/bytealg.IndexByteString"], unfollowed := true, recurses := true, apart := false }
def SeamsRepeatSaid : Prop := seamsRepeatRow.holds Try.pinned (OpenSpec.ofChange seamsRepeatSpec)

/-- ITS FALSE NEIGHBOUR: 'it returns false'. Refute it at one input. -/
def seamsRepeatWrong : ChangeSpec := { name := "seamsRepeat", fn := fun _ => fun
  | [d1, d2] => { results := [.lit (.bool false)], args := [d1, d2] }
  | _ => none }
def SeamsRepeatWrongFalsely : Prop := seamsRepeatRow.holds Try.pinned (OpenSpec.ofChange seamsRepeatWrong)

/-- 'torchonlaw24.SeamsLoops': WHATEVER THE INPUT: true; the input reads as it did. -/
def seamsLoopsSpec : ChangeSpec := { name := "seamsLoops", fn := fun _ => fun
  | [d1, d2] => { results := [.lit (.bool true)], args := [d1, d2] }
  | _ => none }
def seamsLoopsRow : OpenClaim := { program := "ytdimfbmbomgiaaa", sum := "cbfeee81394854eb3cb9fcc730cec2d6190a69a38f347d71f71c320ba38ef63f", func := "torchon/torchonlaw24.SeamsLoops", spec := "seamsLoops", inPlace := ["internal/bytealg.IndexByteString"], unfollowed := true, recurses := true, apart := false }
def SeamsLoopsSaid : Prop := seamsLoopsRow.holds Try.pinned (OpenSpec.ofChange seamsLoopsSpec)

/-- ITS FALSE NEIGHBOUR: 'it returns false'. Refute it at one input. -/
def seamsLoopsWrong : ChangeSpec := { name := "seamsLoops", fn := fun _ => fun
  | [d1, d2] => { results := [.lit (.bool false)], args := [d1, d2] }
  | _ => none }
def SeamsLoopsWrongFalsely : Prop := seamsLoopsRow.holds Try.pinned (OpenSpec.ofChange seamsLoopsWrong)

/-- 'torchonlaw24.SeamsFewest': WHATEVER THE INPUT: true; the input reads as it did. -/
def seamsFewestSpec : ChangeSpec := { name := "seamsFewest", fn := fun _ => fun
  | [d] => { results := [.lit (.bool true)], args := [d] }
  | _ => none }
def seamsFewestRow : OpenClaim := { program := "ytdimfbmbomgiaaa", sum := "cbfeee81394854eb3cb9fcc730cec2d6190a69a38f347d71f71c320ba38ef63f", func := "torchon/torchonlaw24.SeamsFewest", spec := "seamsFewest", inPlace := ["internal/bytealg.IndexByteString"], unfollowed := true, recurses := true, apart := false }
def SeamsFewestSaid : Prop := seamsFewestRow.holds Try.pinned (OpenSpec.ofChange seamsFewestSpec)

/-- ITS FALSE NEIGHBOUR: 'it returns false'. Refute it at one input. -/
def seamsFewestWrong : ChangeSpec := { name := "seamsFewest", fn := fun _ => fun
  | [d] => { results := [.lit (.bool false)], args := [d] }
  | _ => none }
def SeamsFewestWrongFalsely : Prop := seamsFewestRow.holds Try.pinned (OpenSpec.ofChange seamsFewestWrong)

/-- 'torchonlaw24.SeamsAll': WHATEVER THE INPUT: true; the input reads as it did. -/
def seamsAllSpec : ChangeSpec := { name := "seamsAll", fn := fun _ => fun
  | [d1, d2] => { results := [.lit (.bool true)], args := [d1, d2] }
  | _ => none }
def seamsAllRow : OpenClaim := { program := "ytdimfbmbomgiaaa", sum := "cbfeee81394854eb3cb9fcc730cec2d6190a69a38f347d71f71c320ba38ef63f", func := "torchon/torchonlaw24.SeamsAll", spec := "seamsAll", inPlace := ["internal/bytealg.IndexByteString"], unfollowed := true, recurses := true, apart := false }
def SeamsAllSaid : Prop := seamsAllRow.holds Try.pinned (OpenSpec.ofChange seamsAllSpec)

/-- ITS FALSE NEIGHBOUR: 'it returns false'. Refute it at one input. -/
def seamsAllWrong : ChangeSpec := { name := "seamsAll", fn := fun _ => fun
  | [d1, d2] => { results := [.lit (.bool false)], args := [d1, d2] }
  | _ => none }
def SeamsAllWrongFalsely : Prop := seamsAllRow.holds Try.pinned (OpenSpec.ofChange seamsAllWrong)

/-- 'torchonlaw24.SeamsBack': WHATEVER THE INPUT: true; the input reads as it did. -/
def seamsBackSpec : ChangeSpec := { name := "seamsBack", fn := fun _ => fun
  | [d1, d2, d3] => { results := [.lit (.bool true)], args := [d1, d2, d3] }
  | _ => none }
def seamsBackRow : OpenClaim := { program := "ytdimfbmbomgiaaa", sum := "cbfeee81394854eb3cb9fcc730cec2d6190a69a38f347d71f71c320ba38ef63f", func := "torchon/torchonlaw24.SeamsBack", spec := "seamsBack", inPlace := ["internal/bytealg.IndexByteString"], unfollowed := true, recurses := true, apart := false }
def SeamsBackSaid : Prop := seamsBackRow.holds Try.pinned (OpenSpec.ofChange seamsBackSpec)

/-- ITS FALSE NEIGHBOUR: 'it returns false'. Refute it at one input. -/
def seamsBackWrong : ChangeSpec := { name := "seamsBack", fn := fun _ => fun
  | [d1, d2, d3] => { results := [.lit (.bool false)], args := [d1, d2, d3] }
  | _ => none }
def SeamsBackWrongFalsely : Prop := seamsBackRow.holds Try.pinned (OpenSpec.ofChange seamsBackWrong)

/-- 'torchonlaw24.SeamsParts': WHATEVER THE INPUT: true; the input reads as it did. -/
def seamsPartsSpec : ChangeSpec := { name := "seamsParts", fn := fun _ => fun
  | [d1, d2] => { results := [.lit (.bool true)], args := [d1, d2] }
  | _ => none }
def seamsPartsRow : OpenClaim := { program := "ytdimfbmbomgiaaa", sum := "cbfeee81394854eb3cb9fcc730cec2d6190a69a38f347d71f71c320ba38ef63f", func := "torchon/torchonlaw24.SeamsParts", spec := "seamsParts", inPlace := ["internal/bytealg.IndexByteString"], unfollowed := true, recurses := true, apart := false }
def SeamsPartsSaid : Prop := seamsPartsRow.holds Try.pinned (OpenSpec.ofChange seamsPartsSpec)

/-- ITS FALSE NEIGHBOUR: 'it returns false'. Refute it at one input. -/
def seamsPartsWrong : ChangeSpec := { name := "seamsParts", fn := fun _ => fun
  | [d1, d2] => { results := [.lit (.bool false)], args := [d1, d2] }
  | _ => none }
def SeamsPartsWrongFalsely : Prop := seamsPartsRow.holds Try.pinned (OpenSpec.ofChange seamsPartsWrong)

/- THE SECOND FORM. 'bulk': how many values and letters a reading holds, each counted each time it is reached (what is shared counts as often as it is met; a slice's spare places count too). A statement '..UptoSaid' is the law's where the arguments, and the package variables that the reading takes, are together of bulk at most 1048576: NARROWER than '..Said'. Prove '..Said' where nothing that the law and all that it calls make is longer than what came in: it says more and counts as full. Else prove '..UptoSaid'. A law counts once. -/
mutual
def uptoBulk {H : Type} : DataW H → Nat
  | .lit (.string bytes) => bytes.length + 1
  | .lit _ => 1
  | .nil => 1
  | .ptr d => uptoBulk d + 1
  | .slice elems spare => uptoBulkAll elems + uptoBulkAll spare + 1
  | .agg parts => uptoBulkAll parts + 1
  | .iface _ d => uptoBulk d + 1
  | .map entries => uptoBulkEntries entries + 1
  | .held _ => 1
def uptoBulkAll {H : Type} : List (DataW H) → Nat
  | [] => 0
  | d :: r => uptoBulk d + uptoBulkAll r
def uptoBulkEntries {H : Type} : List (Lit × DataW H) → Nat
  | [] => 0
  | x :: r => uptoBulkEntry x + uptoBulkEntries r
def uptoBulkEntry {H : Type} : Lit × DataW H → Nat
  | (.string bytes, d) => bytes.length + uptoBulk d + 1
  | (_, d) => uptoBulk d + 1
 end
def uptoSmall : (H : Type) → List (DataW H) → Bool := fun _ ds => decide (uptoBulkAll ds ≤ 1048576)
def OpenSpec.upto (s : _root_.Go.ChangeSpec) : _root_.Go.OpenSpec := { _root_.Go.OpenSpec.ofChange s with cond := some uptoSmall }

/-- 'torchonlaw24.SeamsRepeat', WHERE WHAT IT READS IS OF BULK AT MOST 1048576: true; the input reads as it did. -/
def seamsRepeatUptoRow : OpenClaim := { program := "ytdimfbmbomgiaaa", sum := "cbfeee81394854eb3cb9fcc730cec2d6190a69a38f347d71f71c320ba38ef63f", func := "torchon/torchonlaw24.SeamsRepeat", spec := "seamsRepeat", inPlace := ["internal/bytealg.IndexByteString"], unfollowed := true, recurses := true, apart := false, narrowed := true }
def SeamsRepeatUptoSaid : Prop := seamsRepeatUptoRow.holds Try.pinned (OpenSpec.upto seamsRepeatSpec)

/-- 'torchonlaw24.SeamsLoops', WHERE WHAT IT READS IS OF BULK AT MOST 1048576: true; the input reads as it did. -/
def seamsLoopsUptoRow : OpenClaim := { program := "ytdimfbmbomgiaaa", sum := "cbfeee81394854eb3cb9fcc730cec2d6190a69a38f347d71f71c320ba38ef63f", func := "torchon/torchonlaw24.SeamsLoops", spec := "seamsLoops", inPlace := ["internal/bytealg.IndexByteString"], unfollowed := true, recurses := true, apart := false, narrowed := true }
def SeamsLoopsUptoSaid : Prop := seamsLoopsUptoRow.holds Try.pinned (OpenSpec.upto seamsLoopsSpec)

/-- 'torchonlaw24.SeamsFewest', WHERE WHAT IT READS IS OF BULK AT MOST 1048576: true; the input reads as it did. -/
def seamsFewestUptoRow : OpenClaim := { program := "ytdimfbmbomgiaaa", sum := "cbfeee81394854eb3cb9fcc730cec2d6190a69a38f347d71f71c320ba38ef63f", func := "torchon/torchonlaw24.SeamsFewest", spec := "seamsFewest", inPlace := ["internal/bytealg.IndexByteString"], unfollowed := true, recurses := true, apart := false, narrowed := true }
def SeamsFewestUptoSaid : Prop := seamsFewestUptoRow.holds Try.pinned (OpenSpec.upto seamsFewestSpec)

/-- 'torchonlaw24.SeamsAll', WHERE WHAT IT READS IS OF BULK AT MOST 1048576: true; the input reads as it did. -/
def seamsAllUptoRow : OpenClaim := { program := "ytdimfbmbomgiaaa", sum := "cbfeee81394854eb3cb9fcc730cec2d6190a69a38f347d71f71c320ba38ef63f", func := "torchon/torchonlaw24.SeamsAll", spec := "seamsAll", inPlace := ["internal/bytealg.IndexByteString"], unfollowed := true, recurses := true, apart := false, narrowed := true }
def SeamsAllUptoSaid : Prop := seamsAllUptoRow.holds Try.pinned (OpenSpec.upto seamsAllSpec)

/-- 'torchonlaw24.SeamsBack', WHERE WHAT IT READS IS OF BULK AT MOST 1048576: true; the input reads as it did. -/
def seamsBackUptoRow : OpenClaim := { program := "ytdimfbmbomgiaaa", sum := "cbfeee81394854eb3cb9fcc730cec2d6190a69a38f347d71f71c320ba38ef63f", func := "torchon/torchonlaw24.SeamsBack", spec := "seamsBack", inPlace := ["internal/bytealg.IndexByteString"], unfollowed := true, recurses := true, apart := false, narrowed := true }
def SeamsBackUptoSaid : Prop := seamsBackUptoRow.holds Try.pinned (OpenSpec.upto seamsBackSpec)

/-- 'torchonlaw24.SeamsParts', WHERE WHAT IT READS IS OF BULK AT MOST 1048576: true; the input reads as it did. -/
def seamsPartsUptoRow : OpenClaim := { program := "ytdimfbmbomgiaaa", sum := "cbfeee81394854eb3cb9fcc730cec2d6190a69a38f347d71f71c320ba38ef63f", func := "torchon/torchonlaw24.SeamsParts", spec := "seamsParts", inPlace := ["internal/bytealg.IndexByteString"], unfollowed := true, recurses := true, apart := false, narrowed := true }
def SeamsPartsUptoSaid : Prop := seamsPartsUptoRow.holds Try.pinned (OpenSpec.upto seamsPartsSpec)

end Rows
end Go.Proofs.Ytdimfbmbomgiaaa
