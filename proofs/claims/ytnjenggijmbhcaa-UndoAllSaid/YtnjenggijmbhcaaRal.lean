/-
  Proved: Rows.UndoAllSaid: for every two sheets the law UndoAll returns true and leaves its arguments as they were. No condition.
-/
import Derived.Test.YtnjenggijmbhcaaLal
import Derived.Test.YtnjenggijmbhcaaUnn
import Derived.Test.YtnjenggijmbhcaaArg
import Derived.ChangeOld
import Derived.Below
namespace Go.Proofs.Ytnjenggijmbhcaa
open Go.RowKit Go.ChangeShapes Go.WideShapes Go.ChangeAt Go.Joins
theorem netSaysAll : NetSays := fun p A n c ws w h1 h2 h3 h4 h5 h6 => NetUn p A n c ws w h1 h2 h3 h4 h5 h6
theorem ownGoAll : ownKnob Try.prog.godebug = none := by kernel_rfl
theorem laidOutGoAll : laidOutB Try.prog = true := by kernel_rfl
set_option maxRecDepth 100000 in
theorem undoAll_lifted (os : Os) (started : os.Started) (H : Type) (enc : TypeId × Value → H) :
    ReturnsInHanded {} Try.checked os 5 .any (Rows.undoAllSpec.pre6 enc Try.prog Try.f5 Rows.undoAllRow.domain false) (Rows.undoAllSpec.post enc Try.prog Try.f5 false true false false) := by
  refine returnsInHanded_of_change (C := Try.checked) ownGoAll started (by kernel_rfl) Try.func5
    (ChangeSpec.witness6 (enc := enc) (C := Try.checked) false ⟨#[], #[.agg #[.int .i64 0, .slice none 0 0], .agg #[.int .i64 0, .slice none 0 0]], []⟩ 8 (by kernel_rfl) (by kernel_rfl) (by kernel_rfl) (by kernel_rfl)) ?_
  intro W base args ds gs before hval0 hW hcnd _
  have hval : ∀ (j : Nat) t v, Try.f5.params[j]? = some t → args[j]? = some v → Value.okWide Try.prog W .any base t v := hval0
  have hW' := hW
  obtain ⟨p, q, hA0, hV, rfl, hfz, hnd⟩ := hW
  have hA : DataW.TrodAll enc Try.prog W 0 (fun _ => true) true Try.f5.params.toList args.toList ds p := hA0
  rw [Try.params5] at hA hval
  obtain ⟨v0, vs0, d0, ds0, p0, q0, hargs, rfl, rfl, h0, r0⟩ := trodAll_cons hA
  obtain ⟨v1, vs1, d1, ds1, p1, q1, rfl, rfl, rfl, h1, r1⟩ := trodAll_cons r0
  obtain ⟨rfl, rfl, rfl⟩ := trodAll_nil r1
  obtain rfl : args = #[v0, v1] := by cases args; simp_all
  obtain ⟨rfl, rfl⟩ := trodVars_none hV
  have lt0 : ∀ x ∈ p0, x.block < W.heap.size := by obtain ⟨m, hm⟩ := h0; exact DataW.trod_lt m _ _ _ hm
  have lt1 : ∀ x ∈ p1, x.block < W.heap.size := by obtain ⟨m, hm⟩ := h1; exact DataW.trod_lt m _ _ _ hm
  obtain ⟨pp, A, n, c, us, rfl, hnc, hcm, hw, hl, hs⟩ := openSheet (hval 0 24 v0 rfl rfl) h0
  obtain ⟨qq, B, m, d, vs, rfl, hmd, hdm, hv, hl', hs'⟩ := openSheet (hval 1 24 v1 rfl rfl) h1
  clear hA0 hval0
  refine (allOf netSaysAll pp qq A B n m c d us vs W (Nat.le_trans hnc hcm) (Nat.le_trans hmd hdm) hnc hmd hw hv hl hl' hs hs').mono fun e W' ⟨he, bel⟩ => ?_
  subst he
  exact ⟨_, rfl, _, _, _, [], _, [], hW', trodAll_mk1 (shut_bool Try.underlying4 _), (trodAll_cons_mk (Below.trod laidOutGoAll (by kernel_rfl) (of_decide_eq_true (by kernel_rfl)) h0 bel lt0) (trodAll_cons_mk (Below.trod laidOutGoAll (by kernel_rfl) (of_decide_eq_true (by kernel_rfl)) h1 bel lt1) trodAll_mk0)), rfl, bel.frame _, fun h => by cases h⟩
theorem undoAll_holds : Rows.UndoAllSaid :=
  OpenClaim.holds_of_wide 5 Try.f5 rfl rfl rfl rfl rfl rfl rfl ⟨rfl, rfl, rfl, rfl, rfl⟩ rfl rfl rfl rfl rfl (by kernel_rfl) Try.func5 (by kernel_rfl)
    (of_decide_eq_true (by kernel_rfl)) (by unfold Func.isWrapper; first | (rw [if_pos (by decide +kernel)]; kernel_rfl) | (rw [if_neg (by decide +kernel)]; exact ⟨rfl, rfl⟩))
    (fun os started H enc _ => undoAll_lifted os started H enc)
end Go.Proofs.Ytnjenggijmbhcaa
