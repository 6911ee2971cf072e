/-
  Contracts: stitches.twists, letter by letter.
-/
import Derived.Test.YtpljaoagiaijiaaSt
import Derived.Test.YtpljaoagiaijiaaBeg
namespace Go.Proofs.Ytpljaoagiaijiaa
open Go.RowKit
/-- how often each place is crossed by a letter -/
def twV (c : UInt8) : List Int :=
  if c = 67 then [0, 1, 0]
  else if c = 84 then [-1, 0, -1]
  else if c = 76 then [-1, 0, 0]
  else if c = 82 then [0, 0, -1]
  else if c = 80 then [0, 0, 0]
  else if c = 99 then [0, -1, 0]
  else if c = 116 then [1, 0, 1]
  else if c = 108 then [1, 0, 0]
  else if c = 114 then [0, 0, 1]
  else [0, 0, 0]
set_option maxRecDepth 100000 in
theorem tw67 (w : World) : Calls Try.prog 72 #[.int .u8 67] w fun e w' => e = .returned (.agg #[.int .i64 0, .int .i64 1, .int .i64 0]) ∧ Below w.heap.size w w' := by
  have b0 : bits BinOp.or IntKind.u8 67 32 = 99 := by decide
  go_enter Try.func72, Try.ntmps72
  go_wp2
  refine bodyPost_ret (v := .agg #[.int .i64 0, .int .i64 1, .int .i64 0]) (results_cell_row rfl _ _ w.heap.size 109 _ (0, 0) (.array 3 3) rfl ((Has.new rfl).alloc _) (by kernel_rfl) rfl (by kernel_rfl)) rfl ?_
  exact ⟨rfl, by go_grown⟩
set_option maxRecDepth 100000 in
theorem tw84 (w : World) : Calls Try.prog 72 #[.int .u8 84] w fun e w' => e = .returned (.agg #[.int .i64 (-1), .int .i64 0, .int .i64 (-1)]) ∧ Below w.heap.size w w' := by
  have b0 : bits BinOp.or IntKind.u8 84 32 = 116 := by decide
  go_enter Try.func72, Try.ntmps72
  go_wp2
  refine bodyPost_ret (v := .agg #[.int .i64 (-1), .int .i64 0, .int .i64 (-1)]) (results_cell_row rfl _ _ w.heap.size 109 _ (0, 0) (.array 3 3) rfl ((Has.new rfl).alloc _) (by kernel_rfl) rfl (by kernel_rfl)) rfl ?_
  exact ⟨rfl, by go_grown⟩
set_option maxRecDepth 100000 in
theorem tw76 (w : World) : Calls Try.prog 72 #[.int .u8 76] w fun e w' => e = .returned (.agg #[.int .i64 (-1), .int .i64 0, .int .i64 0]) ∧ Below w.heap.size w w' := by
  have b0 : bits BinOp.or IntKind.u8 76 32 = 108 := by decide
  go_enter Try.func72, Try.ntmps72
  go_wp2
  refine bodyPost_ret (v := .agg #[.int .i64 (-1), .int .i64 0, .int .i64 0]) (results_cell_row rfl _ _ w.heap.size 109 _ (0, 0) (.array 3 3) rfl ((Has.new rfl).alloc _) (by kernel_rfl) rfl (by kernel_rfl)) rfl ?_
  exact ⟨rfl, by go_grown⟩
set_option maxRecDepth 100000 in
theorem tw82 (w : World) : Calls Try.prog 72 #[.int .u8 82] w fun e w' => e = .returned (.agg #[.int .i64 0, .int .i64 0, .int .i64 (-1)]) ∧ Below w.heap.size w w' := by
  have b0 : bits BinOp.or IntKind.u8 82 32 = 114 := by decide
  go_enter Try.func72, Try.ntmps72
  go_wp2
  refine bodyPost_ret (v := .agg #[.int .i64 0, .int .i64 0, .int .i64 (-1)]) (results_cell_row rfl _ _ w.heap.size 109 _ (0, 0) (.array 3 3) rfl ((Has.new rfl).alloc _) (by kernel_rfl) rfl (by kernel_rfl)) rfl ?_
  exact ⟨rfl, by go_grown⟩
set_option maxRecDepth 100000 in
theorem tw80 (w : World) : Calls Try.prog 72 #[.int .u8 80] w fun e w' => e = .returned (.agg #[.int .i64 0, .int .i64 0, .int .i64 0]) ∧ Below w.heap.size w w' := by
  have b0 : bits BinOp.or IntKind.u8 80 32 = 112 := by decide
  go_enter Try.func72, Try.ntmps72
  go_wp2
  refine bodyPost_ret (v := .agg #[.int .i64 0, .int .i64 0, .int .i64 0]) (results_cell_row rfl _ _ w.heap.size 109 _ (0, 0) (.array 3 3) rfl ((Has.new rfl).alloc _) (by kernel_rfl) rfl (by kernel_rfl)) rfl ?_
  exact ⟨rfl, by go_grown⟩
set_option maxRecDepth 100000 in
theorem tw99 (w : World) : Calls Try.prog 72 #[.int .u8 99] w fun e w' => e = .returned (.agg #[.int .i64 0, .int .i64 (-1), .int .i64 0]) ∧ Below w.heap.size w w' := by
  have b0 : bits BinOp.or IntKind.u8 99 32 = 99 := by decide
  go_enter Try.func72, Try.ntmps72
  go_wp2
  refine bodyPost_ret (v := .agg #[.int .i64 0, .int .i64 (-1), .int .i64 0]) (results_cell_row rfl _ _ w.heap.size 109 _ (0, 0) (.array 3 3) rfl ((Has.new rfl).alloc _) (by kernel_rfl) rfl (by kernel_rfl)) rfl ?_
  exact ⟨rfl, by go_grown⟩
set_option maxRecDepth 100000 in
theorem tw116 (w : World) : Calls Try.prog 72 #[.int .u8 116] w fun e w' => e = .returned (.agg #[.int .i64 1, .int .i64 0, .int .i64 1]) ∧ Below w.heap.size w w' := by
  have b0 : bits BinOp.or IntKind.u8 116 32 = 116 := by decide
  go_enter Try.func72, Try.ntmps72
  go_wp2
  refine bodyPost_ret (v := .agg #[.int .i64 1, .int .i64 0, .int .i64 1]) (results_cell_row rfl _ _ w.heap.size 109 _ (0, 0) (.array 3 3) rfl ((Has.new rfl).alloc _) (by kernel_rfl) rfl (by kernel_rfl)) rfl ?_
  exact ⟨rfl, by go_grown⟩
set_option maxRecDepth 100000 in
theorem tw108 (w : World) : Calls Try.prog 72 #[.int .u8 108] w fun e w' => e = .returned (.agg #[.int .i64 1, .int .i64 0, .int .i64 0]) ∧ Below w.heap.size w w' := by
  have b0 : bits BinOp.or IntKind.u8 108 32 = 108 := by decide
  go_enter Try.func72, Try.ntmps72
  go_wp2
  refine bodyPost_ret (v := .agg #[.int .i64 1, .int .i64 0, .int .i64 0]) (results_cell_row rfl _ _ w.heap.size 109 _ (0, 0) (.array 3 3) rfl ((Has.new rfl).alloc _) (by kernel_rfl) rfl (by kernel_rfl)) rfl ?_
  exact ⟨rfl, by go_grown⟩
set_option maxRecDepth 100000 in
theorem tw114 (w : World) : Calls Try.prog 72 #[.int .u8 114] w fun e w' => e = .returned (.agg #[.int .i64 0, .int .i64 0, .int .i64 1]) ∧ Below w.heap.size w w' := by
  have b0 : bits BinOp.or IntKind.u8 114 32 = 114 := by decide
  go_enter Try.func72, Try.ntmps72
  go_wp2
  refine bodyPost_ret (v := .agg #[.int .i64 0, .int .i64 0, .int .i64 1]) (results_cell_row rfl _ _ w.heap.size 109 _ (0, 0) (.array 3 3) rfl ((Has.new rfl).alloc _) (by kernel_rfl) rfl (by kernel_rfl)) rfl ?_
  exact ⟨rfl, by go_grown⟩
theorem let_cases {c : UInt8} (h : isLet c = true) : c = 67 ∨ c = 84 ∨ c = 76 ∨ c = 82 ∨ c = 80 ∨ c = 99 ∨ c = 116 ∨ c = 108 ∨ c = 114 := by
  unfold isLet letters at h
  simp at h
  exact h
theorem twV_len (c : UInt8) : (twV c).length = 3 := by
  unfold twV
  repeat' split
  all_goals rfl
theorem twists72 (c : UInt8) (h : isLet c = true) (w : World) : Calls Try.prog 72 #[.int .u8 c.toNat] w fun e w' => e = .returned (.agg ((twV c).map vInt).toArray) ∧ Below w.heap.size w w' := by
  rcases let_cases h with rfl | rfl | rfl | rfl | rfl | rfl | rfl | rfl | rfl
  · exact tw67 w
  · exact tw84 w
  · exact tw76 w
  · exact tw82 w
  · exact tw80 w
  · exact tw99 w
  · exact tw116 w
  · exact tw108 w
  · exact tw114 w
end Go.Proofs.Ytpljaoagiaijiaa
