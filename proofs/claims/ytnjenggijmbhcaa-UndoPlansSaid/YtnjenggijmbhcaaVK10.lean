/-
  Two works compared by == and !=, as the model runs it.
-/
import Derived.Test.YtnjenggijmbhcaaVK1
import Derived.Laws.StructEq
namespace Go.Proofs.Ytnjenggijmbhcaa
open Go.RowKit
theorem wkHeld : Try.prog.stoodInHeld 26 = false := by kernel_rfl
theorem wkGuard : Try.prog.eqGuardType Try.prog.depth 26 = false := by kernel_rfl
theorem wk_beq (x y : Wk) : (x == y) = (x.kind == y.kind && (x.at_ == y.at_ && x.word.toList == y.word.toList)) := by
  rw [Bool.eq_iff_iff]
  simp only [beq_iff_eq, Bool.and_eq_true, ByteArray.toList_eq]
  constructor
  · rintro rfl; exact ⟨rfl, rfl, rfl⟩
  · rintro ⟨h1, h2, h3⟩
    cases x with | mk a b c => cases y with | mk a' b' c' =>
      simp only at h1 h2 h3
      subst h1; subst h2
      have : c = c' := by
        cases c with | mk c => cases c' with | mk c' =>
          simp only [ByteArray.mk.injEq]
          exact Array.toList_inj.1 h3
      rw [this]
theorem neq_wk (x y : Wk) (w : World) : (binOp .neq 26 (.agg #[.int .i64 x.kind, .int .i64 x.at_, .string x.word]) (.agg #[.int .i64 y.kind, .int .i64 y.at_, .string y.word])).run Try.prog w = .ok (.bool (!(x == y))) w := by
  have e1 := wkHeld
  rw [wk_beq]
  cases h1 : x.kind == y.kind <;> cases h2 : x.at_ == y.at_ <;> cases h3 : x.word.toList == y.word.toList <;>
  simp [go_sem, e1, h1, h2, h3, Try.underlying26, Try.underlying3, Try.underlying9]
theorem eql_wk (x y : Wk) (w : World) : (binOp .eql 26 (.agg #[.int .i64 x.kind, .int .i64 x.at_, .string x.word]) (.agg #[.int .i64 y.kind, .int .i64 y.at_, .string y.word])).run Try.prog w = .ok (.bool (x == y)) w := by
  have e1 := wkHeld
  rw [wk_beq]
  cases h1 : x.kind == y.kind <;> cases h2 : x.at_ == y.at_ <;> cases h3 : x.word.toList == y.word.toList <;>
  simp [go_sem, e1, h1, h2, h3, Try.underlying26, Try.underlying3, Try.underlying9]
end Go.Proofs.Ytnjenggijmbhcaa
