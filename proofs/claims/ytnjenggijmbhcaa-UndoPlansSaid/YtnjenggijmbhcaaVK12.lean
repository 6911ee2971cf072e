import Derived.StillTail
import Derived.Deep.RegionHeld3
namespace Go.Proofs.Ytnjenggijmbhcaa
open Go
/-! A region that draws, with a condition that holds till operation k has come up and another one from then on. -/
section
variable {P : Program} {ops : Array Oper} {Q : Exit → Act → World → Prop} {md : Region.Mode} {S : Bool → World → Prop} {k : Nat}
def wpAnyB (P : Program) (md : Region.Mode) (ops : Array Oper) (Q : Exit → Act → World → Prop) (S : Bool → World → Prop) (k : Nat) : Nat → Array Bool → Act → World → Prop
  | 0, listed, a, w => Region.ready md ops listed = [] ∧ Q .normal a w
  | fuel + 1, listed, a, w =>
    (Region.ready md ops listed = [] → Q .normal a w) ∧
    ∀ i ∈ Region.ready md ops listed, wpOp P ops Q i (fun a' w' => S ((listed.setIfInBounds i true).getD k false) w' ∧ wpAnyB P md ops Q S k fuel (listed.setIfInBounds i true) a' w') a w
theorem wpAny_of_B : ∀ (fuel : Nat) (listed : Array Bool) (a : Act) (w : World), wpAnyB P md ops Q S k fuel listed a w → wpAny P md ops Q fuel listed a w
  | 0, _, _, _, h => h
  | fuel + 1, _, _, _, h => ⟨h.1, fun i hi => wpOp_mono (fun a' w' h' => wpAny_of_B fuel _ a' w' h'.2) (h.2 i hi)⟩
theorem wpAnyB_first {i : Nat} {oi : Oper} {v : Value} {Sx : World → Prop} (hi : ops[i]? = some oi) (hsel : ∀ (j : Nat) (o : Oper) cs b, ops[j]? = some o → o.op ≠ .select cs b)
    (hQ : ∀ c a w, Q (.panic c) (a.put oi.dst v) w → Q (.panic c) a w) (hik : i ≠ k) (hf0 : ∀ w, S false w → Sx w) (hf1 : (∀ w, S true w → Sx w) ∨ Region.waitsFor md ops k i = true) :
    ∀ (fuel : Nat) (listed : Array Bool) (a : Act) (w : World),
      (∀ j oj, ops[j]? = some oj → j ≠ i → listed.getD j true = false → (∀ e ∈ oj.after, Region.binds md e = true → e.on ≠ i) → oi.apart ops oj = true) →
      i ∈ Region.ready md ops listed → (listed.getD k false = true → ∀ w, S true w → Sx w) → YieldsIf P ops Sx oi v a → S (listed.getD k false) w →
      wpAnyB P md ops Q S k fuel (listed.setIfInBounds i true) (a.put oi.dst v) w → wpAnyB P md ops Q S k (fuel + 1) listed a w := by
  have hx : ∀ (listed : Array Bool) (w : World), (listed.getD k false = true → ∀ w, S true w → Sx w) → S (listed.getD k false) w → Sx w := fun listed w h hS => by
    cases hb : listed.getD k false with
    | false => rw [hb] at hS; exact hf0 w hS
    | true => have := h hb; rw [hb] at hS; exact this w hS
  intro fuel
  induction fuel with
  | zero =>
    intro listed a w _ hr hl hy hS H
    refine ⟨fun h => (by rw [h] at hr; cases hr), fun j hj => ?_⟩
    by_cases hji : j = i
    · subst hji
      exact hy.wpOp hi (hx _ _ hl hS) ⟨by rw [getD_set_ne false hik]; exact hS, H⟩
    · have := ready_mono hj hji
      rw [H.1] at this
      cases this
  | succ fuel ih =>
    intro listed a w hfree hr hl hy hS H
    refine ⟨fun h => (by rw [h] at hr; cases hr), fun j hj => ?_⟩
    by_cases hji : j = i
    · subst hji
      exact hy.wpOp hi (hx _ _ hl hS) ⟨by rw [getD_set_ne false hik]; exact hS, H⟩
    · have h1 := H.2 j (ready_mono hj hji)
      obtain ⟨hjun, oj, hoj, hall⟩ := mem_ready.1 hj
      have hun := (mem_ready.1 hr).1
      have hnot : ∀ e ∈ oj.after, Region.binds md e = true → e.on ≠ i := fun e he hb heq => by
        have h1 := hall e he hb
        rw [heq, getD_both hun] at h1
        cases h1
      have h2 := wpOp_putIf hoj (hfree j oj hoj hji hjun hnot) (fun cs b => hsel i oi cs b hi) (fun cs b => hsel j oj cs b hoj) hQ hy h1
      have hfree' : ∀ t ot, ops[t]? = some ot → t ≠ i → (listed.setIfInBounds j true).getD t true = false →
          (∀ e ∈ ot.after, Region.binds md e = true → e.on ≠ i) → oi.apart ops ot = true := fun t ot ht hti hun hno => by
        refine hfree t ot ht hti ?_ hno
        by_cases hjt : j = t
        · subst hjt; exact hjun
        · rw [getD_set_ne true hjt] at hun; exact hun
      have hl' : (listed.setIfInBounds j true).getD k false = true → ∀ w, S true w → Sx w := fun h => by
        by_cases hjk : j = k
        · subst hjk
          rcases hf1 with hf1 | hf1
          · exact hf1
          · obtain ⟨o', ho', e, he, hb, hon⟩ := Region.waitsFor_spec hf1
            have : o' = oj := Option.some.inj (ho'.symm.trans hoj)
            subst this
            exact absurd hon (hnot e he hb)
        · rw [getD_set_ne false hjk] at h; exact hl h
      have hsw : ((listed.setIfInBounds i true).setIfInBounds j true).getD k false = (listed.setIfInBounds j true).getD k false := by
        rw [Array.setIfInBounds_comm _ _ (Ne.symm hji), getD_set_ne false hik]
      refine wpOp_mono (fun a' w' h3 => ?_) h2
      have hS3 : S ((listed.setIfInBounds j true).getD k false) w' := hsw ▸ h3.2.1
      refine ⟨hS3, ih (listed.setIfInBounds j true) a' w' hfree' (ready_mono hr (Ne.symm hji)) hl' h3.1 hS3 ?_⟩
      rw [Array.setIfInBounds_comm _ _ hji]
      exact h3.2.2
/-- take number i first -/
theorem wpAnyB_take {i : Nat} {oi : Oper} {v : Value} {fuel : Nat} {listed : Array Bool} {a : Act} {w : World} (Sx : World → Prop) (hi : ops[i]? = some oi)
    (hs : Region.noSelect ops = true) (hf : Region.free md ops listed i = true) (hr : (Region.ready md ops listed).contains i = true) (hk : listed.getD k false = false)
    (hik : (i == k) = false) (hf0 : ∀ w, S false w → Sx w) (hf1 : (∀ w, S true w → Sx w) ∨ Region.waitsFor md ops k i = true)
    (hQ : ∀ c a w, Q (.panic c) (a.put oi.dst v) w → Q (.panic c) a w) (hy : YieldsIf P ops Sx oi v a) (hS : S false w)
    (h : wpAnyB P md ops Q S k fuel (listed.setIfInBounds i true) (a.put oi.dst v) w) : wpAnyB P md ops Q S k (fuel + 1) listed a w :=
  wpAnyB_first hi (Region.noSelect_spec hs) hQ (by simpa using hik) hf0 hf1 fuel listed a w (Region.free_spec hi hf) (by simpa using hr) (fun h => by rw [hk] at h; cases h) hy (by rw [hk]; exact hS) h
/-- each of these comes up next -/
theorem wpAnyB_one {i : Nat} {oi : Oper} {fuel : Nat} {listed : Array Bool} {a : Act} {w : World} (b : Bool) (hi : ops[i]? = some oi) (hr : Region.ready md ops listed = [i]) (hb : (listed.setIfInBounds i true).getD k false = b)
    (h : ∀ K' : Act → World → Prop, Shut (∀ a w, S b w → wpAnyB P md ops Q S k fuel (listed.setIfInBounds i true) a w → K' a w) → if Region.wanted oi (yielded ops a.tmps) = true then Oper.wp P oi a w K' Q else K' (a.put oi.dst undef) w) : wpAnyB P md ops Q S k (fuel + 1) listed a w := by
  subst hb
  refine ⟨fun h0 => (by rw [hr] at h0; cases h0), fun j hj => ?_⟩
  rw [hr] at hj
  have : j = i := by simpa using hj
  subst this
  exact wpOp_step hi (fun K' hK => h K' (fun a w hS hW => hK a w ⟨hS, hW⟩))
theorem wpAnyB_two {i j : Nat} {oi oj : Oper} {fuel : Nat} {listed : Array Bool} {a : Act} {w : World} (b : Bool) (hi : ops[i]? = some oi) (hj : ops[j]? = some oj) (hr : Region.ready md ops listed = [i, j])
    (hb : (listed.setIfInBounds i true).getD k false = b) (hb' : (listed.setIfInBounds j true).getD k false = b)
    (h : ∀ K' : Act → World → Prop, Shut (∀ a w, S b w → wpAnyB P md ops Q S k fuel (listed.setIfInBounds i true) a w → K' a w) → if Region.wanted oi (yielded ops a.tmps) = true then Oper.wp P oi a w K' Q else K' (a.put oi.dst undef) w)
    (h' : ∀ K' : Act → World → Prop, Shut (∀ a w, S b w → wpAnyB P md ops Q S k fuel (listed.setIfInBounds j true) a w → K' a w) → if Region.wanted oj (yielded ops a.tmps) = true then Oper.wp P oj a w K' Q else K' (a.put oj.dst undef) w) : wpAnyB P md ops Q S k (fuel + 1) listed a w := by
  subst hb
  refine ⟨fun h0 => (by rw [hr] at h0; cases h0), fun t ht => ?_⟩
  rw [hr] at ht
  have : t = i ∨ t = j := by simpa using ht
  rcases this with rfl | rfl
  · exact wpOp_step hi (fun K' hK => h K' (fun a w hS hW => hK a w ⟨hS, hW⟩))
  · exact wpOp_step hj (fun K' hK => h' K' (fun a w hS hW => hK a w ⟨hb' ▸ hS, hW⟩))
theorem wpAnyB_done {listed : Array Bool} {a : Act} {w : World} (hr : Region.ready md ops listed = []) (h : Q .normal a w) : ∀ fuel, wpAnyB P md ops Q S k fuel listed a w
  | 0 => ⟨hr, h⟩
  | _ + 1 => ⟨fun _ => h, by rw [hr]; simp⟩
theorem wp_region_B {id : Nat} {a : Act} {w : World} (S : Bool → World → Prop) (k : Nat) (hm : P.follows .mixedOrders = true)
    (h : wpAnyB P .any ops Q S k ops.size (Array.replicate ops.size false) a w.drew) : (Code.region id ops true).wp P Q a w :=
  wp_region_any hm (wpAny_of_B _ _ _ _ h)
end
end Go.Proofs.Ytnjenggijmbhcaa
