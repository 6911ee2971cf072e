/-
  Proved: Rows.UndoPlansSaid: for every input the law UndoPlans returns true and leaves its arguments as they were. No condition.
-/
import Derived.Test.YtnjenggijmbhcaaVE5
import Derived.Test.YtnjenggijmbhcaaVK38
import Derived.Test.YtnjenggijmbhcaaVK39
import Derived.Test.YtnjenggijmbhcaaVP6
import Derived.ChangeOld
import Derived.Below
namespace Go.Proofs.Ytnjenggijmbhcaa
open Go.RowKit Go.ChangeShapes Go.WideShapes Go.ChangeAt Go.Joins
theorem ownGo : ownKnob Try.prog.godebug = none := by kernel_rfl
theorem laidOutGo : laidOutB Try.prog = true := by kernel_rfl
set_option maxRecDepth 100000 in
theorem undoPlans_lifted (os : Os) (started : os.Started) (H : Type) (enc : TypeId × Value → H) :
    ReturnsInHanded {} Try.checked os 10 .any (Rows.undoPlansSpec.pre6 enc Try.prog Try.f10 Rows.undoPlansRow.domain false) (Rows.undoPlansSpec.post enc Try.prog Try.f10 false true false false) := by
  refine returnsInHanded_of_change (C := Try.checked) ownGo started (by kernel_rfl) Try.func10
    (ChangeSpec.witness6 (enc := enc) (C := Try.checked) false ⟨#[], #[.agg #[.int .i64 0, .slice none 0 0], .agg #[.int .i64 0, .int .i64 0, .slice none 0 0, .int .i64 0, .int .i64 0, .int .i64 0, .string ⟨#[]⟩]], []⟩ 8 (by kernel_rfl) (by kernel_rfl) (by kernel_rfl) (by kernel_rfl)) ?_
  intro W base args ds gs before hval0 hW hcnd _
  have hval : ∀ (j : Nat) t v, Try.f10.params[j]? = some t → args[j]? = some v → Value.okWide Try.prog W .any base t v := hval0
  have hW' := hW
  obtain ⟨p, q, hA0, hV, rfl, hfz, hnd⟩ := hW
  have hA : DataW.TrodAll enc Try.prog W 0 (fun _ => true) true Try.f10.params.toList args.toList ds p := hA0
  rw [Try.params10] at hA hval
  obtain ⟨v0, vs0, d0, ds0, p0, q0, hargs, rfl, rfl, h0, r0⟩ := trodAll_cons hA
  obtain ⟨v1, vs1, d1, ds1, p1, q1, rfl, rfl, rfl, h1, r1⟩ := trodAll_cons r0
  obtain ⟨rfl, rfl, rfl⟩ := trodAll_nil r1
  obtain rfl : args = #[v0, v1] := by cases args; simp_all
  obtain ⟨rfl, rfl⟩ := trodVars_none hV
  have lt0 : ∀ x ∈ p0, x.block < W.heap.size := by obtain ⟨m, hm⟩ := h0; exact DataW.trod_lt m _ _ _ hm
  have lt1 : ∀ x ∈ p1, x.block < W.heap.size := by obtain ⟨m, hm⟩ := h1; exact DataW.trod_lt m _ _ _ hm
  obtain ⟨p0v, A0, n0, c0, ws0, rfl, hnc0, hc0, hw0, hl0, hs0⟩ := openSheet (hval 0 24 v0 rfl rfl) h0
  obtain ⟨p1v, sp1, at1, k1v, a1v, s1v, A1, n1, c1, ws1, rfl, hnc1, hc1, hw1, hl1, hs1, hz1⟩ := openCase (hval 1 49 v1 rfl rfl) h1
  clear hA0 hval0
  refine (plansP netSays28 p0v A0 n0 c0 ws0 p1v sp1 at1 k1v a1v s1v A1 n1 c1 ws1 W hnc0 hc0 hw0 hl0 hs0 hnc1 hc1 hw1 hl1 hs1 hz1).mono fun e W' ⟨he, bel⟩ => ?_
  subst he
  exact ⟨_, rfl, _, _, _, [], _, [], hW', trodAll_mk1 (shut_bool Try.underlying4 _), (trodAll_cons_mk (Below.trod laidOutGo (by kernel_rfl) (of_decide_eq_true (by kernel_rfl)) h0 bel lt0) (trodAll_cons_mk (Below.trod laidOutGo (by kernel_rfl) (of_decide_eq_true (by kernel_rfl)) h1 bel lt1) trodAll_mk0)), rfl, bel.frame _, fun h => by cases h⟩
theorem undoPlans_holds : Rows.UndoPlansSaid :=
  OpenClaim.holds_of_wide 10 Try.f10 rfl rfl rfl rfl rfl rfl rfl ⟨rfl, rfl, rfl, rfl, rfl⟩ rfl rfl rfl rfl rfl (by kernel_rfl) Try.func10 (by kernel_rfl)
    (of_decide_eq_true (by kernel_rfl)) (by unfold Func.isWrapper; first | (rw [if_pos (by decide +kernel)]; kernel_rfl) | (rw [if_neg (by decide +kernel)]; exact ⟨rfl, rfl⟩))
    (fun os started H enc _ => undoPlans_lifted os started H enc)
end Go.Proofs.Ytnjenggijmbhcaa
