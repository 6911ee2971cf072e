/-
  Contracts: stitches.twists, letter by letter.
-/
import Derived.Test.YtnjenggijmbhcaaVK3
import Derived.Test.YtnjenggijmbhcaaVK16
namespace Go.Proofs.Ytnjenggijmbhcaa
open Go.RowKit
/-- how often each place is crossed by a letter -/
def twV (c : UInt8) : List Int :=
  if c = 67 then [0, 1, 0]
  else if c = 84 then [-1, 0, -1]
  else if c = 76 then [-1, 0, 0]
  else if c = 82 then [0, 0, -1]
  else if c = 80 then [0, 0, 0]
  else if c = 99 then [0, -1, 0]
  else if c = 116 then [1, 0, 1]
  else if c = 108 then [1, 0, 0]
  else if c = 114 then [0, 0, 1]
  else [0, 0, 0]
theorem let_cases {c : UInt8} (h : isLet c = true) : c = 67 ∨ c = 84 ∨ c = 76 ∨ c = 82 ∨ c = 80 ∨ c = 99 ∨ c = 116 ∨ c = 108 ∨ c = 114 := by
  unfold isLet letters at h
  simp at h
  exact h
theorem twV_len (c : UInt8) : (twV c).length = 3 := by
  unfold twV
  repeat' split
  all_goals rfl
end Go.Proofs.Ytnjenggijmbhcaa
