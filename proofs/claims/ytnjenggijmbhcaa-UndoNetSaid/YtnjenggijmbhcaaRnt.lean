/-
  Proved: Rows.UndoNetSaid: for every sheet, list of numbers and work the law UndoNet returns true and leaves its arguments as they were. No condition.
-/
import Derived.Test.YtnjenggijmbhcaaLnt
import Derived.Test.YtnjenggijmbhcaaUnn
import Derived.Test.YtnjenggijmbhcaaArg
import Derived.ChangeOld
import Derived.Below
namespace Go.Proofs.Ytnjenggijmbhcaa
open Go.RowKit Go.ChangeShapes Go.WideShapes Go.ChangeAt Go.Joins
theorem netSaysNet : NetSays := fun p A n c ws w h1 h2 h3 h4 h5 h6 => NetUn p A n c ws w h1 h2 h3 h4 h5 h6
theorem ownGoNet : ownKnob Try.prog.godebug = none := by kernel_rfl
theorem laidOutGoNet : laidOutB Try.prog = true := by kernel_rfl
set_option maxRecDepth 100000 in
/-- an argument that is a slice of 16-bit numbers -/
theorem openU16s {H : Type} {enc : TypeId × Value → H} {w : World} {held : Bool} {r : Reach} {b0 : Nat} {v : Value} {d : DataW H} {ps : List MemPlace} (hv : Value.okWide Try.prog w r b0 38 v) (h : DataW.Trod enc Try.prog w 0 (fun _ => true) held 38 v d ps) :
    ∃ (B : Option Addr) (m d : Nat) (zs : List Int), v = .slice B m d ∧ m ≤ d ∧ d ≤ 9223372036854775807 ∧ Rd1 vU16 w w.heap.size B zs ∧ zs.length = m ∧ (∀ z ∈ zs, 0 ≤ z ∧ z ≤ 65535) := by
  obtain ⟨a0, len, cap, rfl⟩ := okWide_slice Try.underlying38 hv
  obtain ⟨fuel, hf⟩ := h
  rcases open_ints Try.underlying38 Try.underlying40 (by kernel_rfl) hf with ⟨hcs, _⟩ | ⟨x, l, c, zs, hcs, _, hl, hm, hz, _, hcell, hwz⟩
  · simp [Value.cells] at hcs
    obtain ⟨rfl, rfl, rfl⟩ := hcs
    exact ⟨none, 0, 0, [], rfl, Nat.le_refl _, by omega, Rd1.nil _ _ _ _, rfl, by simp⟩
  · simp [Value.cells] at hcs
    obtain ⟨rfl, rfl, rfl⟩ := hcs
    have hzc : zs.length = cap := by simpa using hz
    refine ⟨some x, len, cap, zs.take len, rfl, hl, Nat.le_trans hm maxLen_le, ?_, by rw [List.length_take]; omega, fun z hz => ?_⟩
    · intro k y hy
      rw [List.getElem?_take] at hy
      split at hy
      · rename_i hk
        have hk2 := lt_of_get hy
        obtain ⟨b, off, rfl, hc⟩ := ints_at hcell (by omega)
        have h1 := hc k hk2
        rw [List.getD_eq_getElem?_getD, hy] at h1
        refine ⟨b, off, rfl, ?_, h1⟩
        refine Nat.lt_of_not_le fun hge => ?_
        have : w.cell? ⟨b, off + k, none⟩ = none := by
          simp [World.cell?, Array.getElem?_eq_none hge]
        rw [this] at h1; cases h1
      · cases hy
    · have := hwz z (List.mem_of_mem_take hz)
      simpa [Lit.wf, IntKind.min, IntKind.max, IntKind.signed, IntKind.bits] using this
set_option maxRecDepth 100000 in
theorem undoNet_lifted (os : Os) (started : os.Started) (H : Type) (enc : TypeId × Value → H) :
    ReturnsInHanded {} Try.checked os 4 .any (Rows.undoNetSpec.pre6 enc Try.prog Try.f4 Rows.undoNetRow.domain false) (Rows.undoNetSpec.post enc Try.prog Try.f4 false true false false) := by
  refine returnsInHanded_of_change (C := Try.checked) ownGoNet started (by kernel_rfl) Try.func4
    (ChangeSpec.witness6 (enc := enc) (C := Try.checked) false ⟨#[], #[.agg #[.int .i64 0, .slice none 0 0], .slice none 0 0, .agg #[.int .i64 0, .int .i64 0, .string ⟨#[]⟩]], []⟩ 8 (by kernel_rfl) (by kernel_rfl) (by kernel_rfl) (by kernel_rfl)) ?_
  intro W base args ds gs before hval0 hW hcnd _
  have hval : ∀ (j : Nat) t v, Try.f4.params[j]? = some t → args[j]? = some v → Value.okWide Try.prog W .any base t v := hval0
  have hW' := hW
  obtain ⟨p, q, hA0, hV, rfl, hfz, hnd⟩ := hW
  have hA : DataW.TrodAll enc Try.prog W 0 (fun _ => true) true Try.f4.params.toList args.toList ds p := hA0
  rw [Try.params4] at hA hval
  obtain ⟨v0, vs0, d0, ds0, p0, q0, hargs, rfl, rfl, h0, r0⟩ := trodAll_cons hA
  obtain ⟨v1, vs1, d1, ds1, p1, q1, rfl, rfl, rfl, h1, r1⟩ := trodAll_cons r0
  obtain ⟨v2, vs2, d2, ds2, p2, q2, rfl, rfl, rfl, h2, r2⟩ := trodAll_cons r1
  obtain ⟨rfl, rfl, rfl⟩ := trodAll_nil r2
  obtain rfl : args = #[v0, v1, v2] := by cases args; simp_all
  obtain ⟨rfl, rfl⟩ := trodVars_none hV
  have lt0 : ∀ x ∈ p0, x.block < W.heap.size := by obtain ⟨m, hm⟩ := h0; exact DataW.trod_lt m _ _ _ hm
  have lt1 : ∀ x ∈ p1, x.block < W.heap.size := by obtain ⟨m, hm⟩ := h1; exact DataW.trod_lt m _ _ _ hm
  have lt2 : ∀ x ∈ p2, x.block < W.heap.size := by obtain ⟨m, hm⟩ := h2; exact DataW.trod_lt m _ _ _ hm
  obtain ⟨pp, A, n, c, us, rfl, hnc, hcm, hw, hl, hs⟩ := openSheet (hval 0 24 v0 rfl rfl) h0
  obtain ⟨B, m, d, zs, rfl, hmd, hdm, hz, hzl, hzr⟩ := openU16s (hval 1 38 v1 rfl rfl) h1
  obtain ⟨k, a, s, rfl, hs2⟩ := openWork (hval 2 26 v2 rfl rfl) h2
  clear hA0 hval0
  refine (netOf netSaysNet pp k a s A B n c m d us zs W (Nat.le_trans hnc hcm) (Nat.le_trans hmd hdm) hnc hw hl hs hs2 hz hzl hzr).mono fun e W' ⟨he, bel⟩ => ?_
  subst he
  exact ⟨_, rfl, _, _, _, [], _, [], hW', trodAll_mk1 (shut_bool Try.underlying4 _), (trodAll_cons_mk (Below.trod laidOutGoNet (by kernel_rfl) (of_decide_eq_true (by kernel_rfl)) h0 bel lt0) (trodAll_cons_mk (Below.trod laidOutGoNet (by kernel_rfl) (of_decide_eq_true (by kernel_rfl)) h1 bel lt1) (trodAll_cons_mk (Below.trod laidOutGoNet (by kernel_rfl) (of_decide_eq_true (by kernel_rfl)) h2 bel lt2) trodAll_mk0))), rfl, bel.frame _, fun h => by cases h⟩
theorem undoNet_holds : Rows.UndoNetSaid :=
  OpenClaim.holds_of_wide 4 Try.f4 rfl rfl rfl rfl rfl rfl rfl ⟨rfl, rfl, rfl, rfl, rfl⟩ rfl rfl rfl rfl rfl (by kernel_rfl) Try.func4 (by kernel_rfl)
    (of_decide_eq_true (by kernel_rfl)) (by unfold Func.isWrapper; first | (rw [if_pos (by decide +kernel)]; kernel_rfl) | (rw [if_neg (by decide +kernel)]; exact ⟨rfl, rfl⟩))
    (fun os started H enc _ => undoNet_lifted os started H enc)
end Go.Proofs.Ytnjenggijmbhcaa
