/-
  Contracts of math/bits.Mul64 and Mul for one times a small number.
-/
import Derived.Test.YtnijfkidgndbdaaOwn
namespace Go.Proofs.Ytnijfkidgndbdaa
open Go.RowKit
def mulHi (T : Int) : Int := IntKind.u64.wrap (IntKind.u64.wrap (IntKind.u64.wrap (IntKind.u64.wrap (bits BinOp.and IntKind.u64 1 4294967295 * bits BinOp.and IntKind.u64 T 4294967295) / 4294967296) / 4294967296) + IntKind.u64.wrap (bits BinOp.and IntKind.u64 (IntKind.u64.wrap (IntKind.u64.wrap (bits BinOp.and IntKind.u64 1 4294967295 * bits BinOp.and IntKind.u64 T 4294967295) / 4294967296)) 4294967295 + IntKind.u64.wrap (bits BinOp.and IntKind.u64 1 4294967295 * (T / 4294967296))) / 4294967296)
theorem mulHi_fin : ∀ T : Fin 49, mulHi (T.val : Int) = 0 := by decide +kernel
theorem mulHi_zero {T : Nat} (h : T ≤ 48) : mulHi (T : Int) = 0 := mulHi_fin ⟨T, by omega⟩
set_option maxRecDepth 100000 in
theorem mul69 (T : Nat) (w : World) (hT : T ≤ 48) : Calls Try.prog 69 #[.int .u64 1, .int .u64 (T : Int)] w fun e w' => e = .returned (.tuple #[.int .u64 0, .int .u64 (T : Int)]) ∧ w' = w := by
  have h := mulHi_zero hT
  unfold mulHi at h
  have H := Lib.hid h; clear h
  go_enter Try.func69, Try.ntmps69
  go_wp2
  go_ret2
  refine ⟨?_, rfl⟩
  rw [H.out]
  rfl
set_option maxRecDepth 100000 in
theorem mul63 (T : Nat) (w : World) (hT : T ≤ 48) : Calls Try.prog 63 #[.int .u64 1, .int .u64 (T : Int)] w fun e w' => e = .returned (.tuple #[.int .u64 0, .int .u64 (T : Int)]) ∧ w' = w := by
  go_enter Try.func63, Try.ntmps63
  go_wp2_with fail
  refine (mul69 T w hT).mono ?_
  rintro e w' ⟨rfl, rfl⟩
  go_wp2
  go_ret2
  exact ⟨rfl, rfl⟩
end Go.Proofs.Ytnijfkidgndbdaa
