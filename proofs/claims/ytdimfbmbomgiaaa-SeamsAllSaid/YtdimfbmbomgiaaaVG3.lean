import Derived.Test.YtdimfbmbomgiaaaVG2
import Derived.StillTail
import Derived.Deep.RegionHeld3
import Derived.RegionTactic
import Derived.RangeFuncNested
import Derived.RangeFuncCalls
import Derived.OrdersIn
namespace Go.Proofs.Ytdimfbmbomgiaaa
open Go
/-! A region that draws, with a condition that holds till operation k has come up and another one from then on. -/
section
variable {P : Program} {ops : Array Oper} {Q : Exit → Act → World → Prop} {md : Region.Mode} {S : Bool → World → Prop} {k : Nat}
def wpAnyB (P : Program) (md : Region.Mode) (ops : Array Oper) (Q : Exit → Act → World → Prop) (S : Bool → World → Prop) (k : Nat) : Nat → Array Bool → Act → World → Prop
  | 0, listed, a, w => Region.ready md ops listed = [] ∧ Q .normal a w
  | fuel + 1, listed, a, w =>
    (Region.ready md ops listed = [] → Q .normal a w) ∧
    ∀ i ∈ Region.ready md ops listed, wpOp P ops Q i (fun a' w' => S ((listed.setIfInBounds i true).getD k false) w' ∧ wpAnyB P md ops Q S k fuel (listed.setIfInBounds i true) a' w') a w
theorem wpAny_of_B : ∀ (fuel : Nat) (listed : Array Bool) (a : Act) (w : World), wpAnyB P md ops Q S k fuel listed a w → wpAny P md ops Q fuel listed a w
  | 0, _, _, _, h => h
  | fuel + 1, _, _, _, h => ⟨h.1, fun i hi => wpOp_mono (fun a' w' h' => wpAny_of_B fuel _ a' w' h'.2) (h.2 i hi)⟩
theorem wpAnyB_first {i : Nat} {oi : Oper} {v : Value} {Sx : World → Prop} (hi : ops[i]? = some oi) (hsel : ∀ (j : Nat) (o : Oper) cs b, ops[j]? = some o → o.op ≠ .select cs b)
    (hQ : ∀ c a w, Q (.panic c) (a.put oi.dst v) w → Q (.panic c) a w) (hik : i ≠ k) (hf0 : ∀ w, S false w → Sx w) (hf1 : (∀ w, S true w → Sx w) ∨ Region.waitsFor md ops k i = true) :
    ∀ (fuel : Nat) (listed : Array Bool) (a : Act) (w : World),
      (∀ j oj, ops[j]? = some oj → j ≠ i → listed.getD j true = false → (∀ e ∈ oj.after, Region.binds md e = true → e.on ≠ i) → oi.apart ops oj = true) →
      i ∈ Region.ready md ops listed → (listed.getD k false = true → ∀ w, S true w → Sx w) → YieldsIf P ops Sx oi v a → S (listed.getD k false) w →
      wpAnyB P md ops Q S k fuel (listed.setIfInBounds i true) (a.put oi.dst v) w → wpAnyB P md ops Q S k (fuel + 1) listed a w := by
  have hx : ∀ (listed : Array Bool) (w : World), (listed.getD k false = true → ∀ w, S true w → Sx w) → S (listed.getD k false) w → Sx w := fun listed w h hS => by
    cases hb : listed.getD k false with
    | false => rw [hb] at hS; exact hf0 w hS
    | true => have := h hb; rw [hb] at hS; exact this w hS
  intro fuel
  induction fuel with
  | zero =>
    intro listed a w _ hr hl hy hS H
    refine ⟨fun h => (by rw [h] at hr; cases hr), fun j hj => ?_⟩
    by_cases hji : j = i
    · subst hji
      exact hy.wpOp hi (hx _ _ hl hS) ⟨by rw [getD_set_ne false hik]; exact hS, H⟩
    · have := ready_mono hj hji
      rw [H.1] at this
      cases this
  | succ fuel ih =>
    intro listed a w hfree hr hl hy hS H
    refine ⟨fun h => (by rw [h] at hr; cases hr), fun j hj => ?_⟩
    by_cases hji : j = i
    · subst hji
      exact hy.wpOp hi (hx _ _ hl hS) ⟨by rw [getD_set_ne false hik]; exact hS, H⟩
    · have h1 := H.2 j (ready_mono hj hji)
      obtain ⟨hjun, oj, hoj, hall⟩ := mem_ready.1 hj
      have hun := (mem_ready.1 hr).1
      have hnot : ∀ e ∈ oj.after, Region.binds md e = true → e.on ≠ i := fun e he hb heq => by
        have h1 := hall e he hb
        rw [heq, getD_both hun] at h1
        cases h1
      have h2 := wpOp_putIf hoj (hfree j oj hoj hji hjun hnot) (fun cs b => hsel i oi cs b hi) (fun cs b => hsel j oj cs b hoj) hQ hy h1
      have hfree' : ∀ t ot, ops[t]? = some ot → t ≠ i → (listed.setIfInBounds j true).getD t true = false →
          (∀ e ∈ ot.after, Region.binds md e = true → e.on ≠ i) → oi.apart ops ot = true := fun t ot ht hti hun hno => by
        refine hfree t ot ht hti ?_ hno
        by_cases hjt : j = t
        · subst hjt; exact hjun
        · rw [getD_set_ne true hjt] at hun; exact hun
      have hl' : (listed.setIfInBounds j true).getD k false = true → ∀ w, S true w → Sx w := fun h => by
        by_cases hjk : j = k
        · subst hjk
          rcases hf1 with hf1 | hf1
          · exact hf1
          · obtain ⟨o', ho', e, he, hb, hon⟩ := Region.waitsFor_spec hf1
            have : o' = oj := Option.some.inj (ho'.symm.trans hoj)
            subst this
            exact absurd hon (hnot e he hb)
        · rw [getD_set_ne false hjk] at h; exact hl h
      have hsw : ((listed.setIfInBounds i true).setIfInBounds j true).getD k false = (listed.setIfInBounds j true).getD k false := by
        rw [Array.setIfInBounds_comm _ _ (Ne.symm hji), getD_set_ne false hik]
      refine wpOp_mono (fun a' w' h3 => ?_) h2
      have hS3 : S ((listed.setIfInBounds j true).getD k false) w' := hsw ▸ h3.2.1
      refine ⟨hS3, ih (listed.setIfInBounds j true) a' w' hfree' (ready_mono hr (Ne.symm hji)) hl' h3.1 hS3 ?_⟩
      rw [Array.setIfInBounds_comm _ _ hji]
      exact h3.2.2
/-- take number i first -/
theorem wpAnyB_take {i : Nat} {oi : Oper} {v : Value} {fuel : Nat} {listed : Array Bool} {a : Act} {w : World} (Sx : World → Prop) (hi : ops[i]? = some oi)
    (hs : Region.noSelect ops = true) (hf : Region.free md ops listed i = true) (hr : (Region.ready md ops listed).contains i = true) (hk : listed.getD k false = false)
    (hik : (i == k) = false) (hf0 : ∀ w, S false w → Sx w) (hf1 : (∀ w, S true w → Sx w) ∨ Region.waitsFor md ops k i = true)
    (hQ : ∀ c a w, Q (.panic c) (a.put oi.dst v) w → Q (.panic c) a w) (hy : YieldsIf P ops Sx oi v a) (hS : S false w)
    (h : wpAnyB P md ops Q S k fuel (listed.setIfInBounds i true) (a.put oi.dst v) w) : wpAnyB P md ops Q S k (fuel + 1) listed a w :=
  wpAnyB_first hi (Region.noSelect_spec hs) hQ (by simpa using hik) hf0 hf1 fuel listed a w (Region.free_spec hi hf) (by simpa using hr) (fun h => by rw [hk] at h; cases h) hy (by rw [hk]; exact hS) h
/-- each of these comes up next -/
theorem wpAnyB_one {i : Nat} {oi : Oper} {fuel : Nat} {listed : Array Bool} {a : Act} {w : World} (b : Bool) (hi : ops[i]? = some oi) (hr : Region.ready md ops listed = [i]) (hb : (listed.setIfInBounds i true).getD k false = b)
    (h : ∀ K' : Act → World → Prop, Shut (∀ a w, S b w → wpAnyB P md ops Q S k fuel (listed.setIfInBounds i true) a w → K' a w) → if Region.wanted oi (yielded ops a.tmps) = true then Oper.wp P oi a w K' Q else K' (a.put oi.dst undef) w) : wpAnyB P md ops Q S k (fuel + 1) listed a w := by
  subst hb
  refine ⟨fun h0 => (by rw [hr] at h0; cases h0), fun j hj => ?_⟩
  rw [hr] at hj
  have : j = i := by simpa using hj
  subst this
  exact wpOp_step hi (fun K' hK => h K' (fun a w hS hW => hK a w ⟨hS, hW⟩))
theorem wpAnyB_two {i j : Nat} {oi oj : Oper} {fuel : Nat} {listed : Array Bool} {a : Act} {w : World} (b : Bool) (hi : ops[i]? = some oi) (hj : ops[j]? = some oj) (hr : Region.ready md ops listed = [i, j])
    (hb : (listed.setIfInBounds i true).getD k false = b) (hb' : (listed.setIfInBounds j true).getD k false = b)
    (h : ∀ K' : Act → World → Prop, Shut (∀ a w, S b w → wpAnyB P md ops Q S k fuel (listed.setIfInBounds i true) a w → K' a w) → if Region.wanted oi (yielded ops a.tmps) = true then Oper.wp P oi a w K' Q else K' (a.put oi.dst undef) w)
    (h' : ∀ K' : Act → World → Prop, Shut (∀ a w, S b w → wpAnyB P md ops Q S k fuel (listed.setIfInBounds j true) a w → K' a w) → if Region.wanted oj (yielded ops a.tmps) = true then Oper.wp P oj a w K' Q else K' (a.put oj.dst undef) w) : wpAnyB P md ops Q S k (fuel + 1) listed a w := by
  subst hb
  refine ⟨fun h0 => (by rw [hr] at h0; cases h0), fun t ht => ?_⟩
  rw [hr] at ht
  have : t = i ∨ t = j := by simpa using ht
  rcases this with rfl | rfl
  · exact wpOp_step hi (fun K' hK => h K' (fun a w hS hW => hK a w ⟨hS, hW⟩))
  · exact wpOp_step hj (fun K' hK => h' K' (fun a w hS hW => hK a w ⟨hb' ▸ hS, hW⟩))
theorem wpAnyB_done {listed : Array Bool} {a : Act} {w : World} (hr : Region.ready md ops listed = []) (h : Q .normal a w) : ∀ fuel, wpAnyB P md ops Q S k fuel listed a w
  | 0 => ⟨hr, h⟩
  | _ + 1 => ⟨fun _ => h, by rw [hr]; simp⟩
theorem wp_region_B {id : Nat} {a : Act} {w : World} (S : Bool → World → Prop) (k : Nat) (hm : P.follows .mixedOrders = true)
    (h : wpAnyB P .any ops Q S k ops.size (Array.replicate ops.size false) a w.drew) : (Code.region id ops true).wp P Q a w :=
  wp_region_any hm (wpAny_of_B _ _ _ _ h)
end
end Go.Proofs.Ytdimfbmbomgiaaa
/-
  Contract of cloth's swap: the line's two cells are exchanged, all else lies as it lay.
-/
namespace Go.Proofs.Ytdimfbmbomgiaaa
open Go.RowKit
/-- all blocks but one lie as they lay -/
structure KeepC (gL : Nat) (A B : World) : Prop where
  os : B.os = A.os
  tape : B.tape = A.tape
  output : B.output = A.output
  size : A.heap.size ≤ B.heap.size
  same : ∀ r, r < A.heap.size → r ≠ gL → B.heap[r]? = A.heap[r]?
theorem KeepC.trans {gL : Nat} {A B C : World} (h : KeepC gL A B) (k : KeepC gL B C) : KeepC gL A C :=
  ⟨k.os.trans h.os, k.tape.trans h.tape, k.output.trans h.output, Nat.le_trans h.size k.size, fun r hr hl => (k.same r (Nat.lt_of_lt_of_le hr h.size) hl).trans (h.same r hr hl)⟩
theorem KeepC.of_below {gL : Nat} {A B : World} (h : Below A.heap.size A B) : KeepC gL A B := ⟨h.os, h.tape, h.output, h.size, fun r hr _ => h.block r hr⟩
theorem KeepC.drew {gL : Nat} {A B : World} (h : KeepC gL A B) : KeepC gL A B.drew := ⟨h.os, h.tape, h.output, h.size, h.same⟩
theorem KeepC.set {g : Nat} (A : World) (i : Nat) (u : Value) : KeepC g A (A.setCell ⟨g, i, none⟩ u) := by
  have h := (Below.refl 0 A).setCell (p := ⟨g, i, none⟩) (Nat.zero_le _) u
  exact ⟨h.os, h.tape, h.output, h.size, fun r _ hl => Below.heap_setCell A _ u r hl⟩
theorem KeepsOthers.drew (W : World) : KeepsOthers W W.drew := ⟨Nat.le_refl _, fun _ _ h _ => h⟩
set_option maxRecDepth 100000 in
set_option maxHeartbeats 1000000 in
theorem swap65 (g i : Nat) (cs : List Value) (va vb : Int) (w : World) (hh : Has w g 109 cs) (hi : i + 1 < 48) (ha' : cs[i]? = some (.int .i64 va)) (hb' : cs[i + 1]? = some (.int .i64 vb)) :
    Calls Try.prog 65 #[.pointer (some ⟨g, 0, none⟩), .int .i64 (i : Int)] w fun e w' => (∃ v, e = .returned v) ∧ Has w' g 109 ((cs.set i (.int .i64 vb)).set (i + 1) (.int .i64 va)) ∧ KeepC g w w' ∧ KeepsOthers w w' := by
  have hg := hh.lt
  have ha : w.cell? ⟨g, i, none⟩ = some (.int .i64 va) := (hh.cell i).trans ha'
  have hb : w.cell? ⟨g, i + 1, none⟩ = some (.int .i64 vb) := (hh.cell (i + 1)).trans hb'
  have i1 : IntKind.i64.wrap ((i : Int) + 1) = (i : Int) + 1 := IntWalk.i64_in _ (by omega)
  have i2 : ((i : Int) + 1).toNat = i + 1 := by omega
  have i3 : (0 : Int) ≤ (i : Int) + 1 := by omega
  have i4 : (i : Int) + 1 < 48 := by omega
  have i5 : (i : Int) < 48 := by omega
  have i6 : i < 48 := by omega
  go_enter Try.func65, Try.ntmps65
  go_wp2
  refine wp_region_noPanic ?_
  refine wp_region_B (fun b w' => g < w'.heap.size ∧ (b = false → w'.cell? ⟨g, i, none⟩ = some (.int .i64 va) ∧ w'.cell? ⟨g, i + 1, none⟩ = some (.int .i64 vb))) 18 (by kernel_rfl) ?_
  have hSS : (fun b w' => g < w'.heap.size ∧ (b = false → w'.cell? ⟨g, i, none⟩ = some (.int .i64 va) ∧ w'.cell? ⟨g, i + 1, none⟩ = some (.int .i64 vb))) false (w.drew) := ⟨hg, fun _ => ⟨ha, hb⟩⟩
  refine wpAnyB_take (i := 0) (oi := _) (v := ?vv1) (fun w' => g < w'.heap.size) rfl (by kernel_rfl) (by kernel_rfl) (by kernel_rfl) (by kernel_rfl) (by rfl) (fun _ h => h.1) (.inl fun _ h => h.1) (fun _ _ _ h => h) (.inl ⟨by rfl, ?hy1⟩) hSS ?_
  case hy1 =>
    intro w' hSw
    try dsimp only at hSw
    go_simp
    all_goals with_reducible rfl
  try simp only [Act.put, List.setIfInBounds_toArray]
  refine wpAnyB_take (i := 1) (oi := _) (v := ?vv2) (fun w' => g < w'.heap.size) rfl (by kernel_rfl) (by kernel_rfl) (by kernel_rfl) (by kernel_rfl) (by rfl) (fun _ h => h.1) (.inl fun _ h => h.1) (fun _ _ _ h => h) (.inl ⟨by rfl, ?hy2⟩) hSS ?_
  case hy2 =>
    intro w' hSw
    try dsimp only at hSw
    go_simp
    all_goals with_reducible rfl
  try simp only [Act.put]
  refine wpAnyB_take (i := 2) (oi := _) (v := ?vv3) (fun w' => g < w'.heap.size) rfl (by kernel_rfl) (by kernel_rfl) (by kernel_rfl) (by kernel_rfl) (by rfl) (fun _ h => h.1) (.inl fun _ h => h.1) (fun _ _ _ h => h) (.inl ⟨by rfl, ?hy3⟩) hSS ?_
  case hy3 =>
    intro w' hSw
    try dsimp only at hSw
    go_simp
    all_goals with_reducible rfl
  try simp only [Act.put]
  refine wpAnyB_take (i := 3) (oi := _) (v := ?vv4) (fun w' => g < w'.heap.size) rfl (by kernel_rfl) (by kernel_rfl) (by kernel_rfl) (by kernel_rfl) (by rfl) (fun _ h => h.1) (.inl fun _ h => h.1) (fun _ _ _ h => h) (.inl ⟨by rfl, ?hy4⟩) hSS ?_
  case hy4 =>
    intro w' hSw
    try dsimp only at hSw
    go_simp
    all_goals with_reducible rfl
  try simp only [Act.put]
  refine wpAnyB_take (i := 4) (oi := _) (v := ?vv5) (fun w' => g < w'.heap.size) rfl (by kernel_rfl) (by kernel_rfl) (by kernel_rfl) (by kernel_rfl) (by rfl) (fun _ h => h.1) (.inl fun _ h => h.1) (fun _ _ _ h => h) (.inl ⟨by rfl, ?hy5⟩) hSS ?_
  case hy5 =>
    intro w' hSw
    try dsimp only at hSw
    go_simp
    all_goals with_reducible rfl
  try simp only [Act.put]
  refine wpAnyB_take (i := 5) (oi := _) (v := ?vv6) (fun w' => g < w'.heap.size) rfl (by kernel_rfl) (by kernel_rfl) (by kernel_rfl) (by kernel_rfl) (by rfl) (fun _ h => h.1) (.inl fun _ h => h.1) (fun _ _ _ h => h) (.inl ⟨by rfl, ?hy6⟩) hSS ?_
  case hy6 =>
    intro w' hSw
    try dsimp only at hSw
    go_simp
    all_goals with_reducible rfl
  try simp only [Act.put]
  refine wpAnyB_take (i := 6) (oi := _) (v := ?vv7) (fun w' => g < w'.heap.size) rfl (by kernel_rfl) (by kernel_rfl) (by kernel_rfl) (by kernel_rfl) (by rfl) (fun _ h => h.1) (.inl fun _ h => h.1) (fun _ _ _ h => h) (.inl ⟨by rfl, ?hy7⟩) hSS ?_
  case hy7 =>
    intro w' hSw
    try dsimp only at hSw
    go_simp
    all_goals with_reducible rfl
  try simp only [Act.put]
  refine wpAnyB_take (i := 7) (oi := _) (v := ?vv8) (fun w' => g < w'.heap.size) rfl (by kernel_rfl) (by kernel_rfl) (by kernel_rfl) (by kernel_rfl) (by rfl) (fun _ h => h.1) (.inl fun _ h => h.1) (fun _ _ _ h => h) (.inl ⟨by rfl, ?hy8⟩) hSS ?_
  case hy8 =>
    intro w' hSw
    try dsimp only at hSw
    go_simp
    all_goals with_reducible rfl
  try simp only [Act.put]
  refine wpAnyB_take (i := 8) (oi := _) (v := ?vv9) (fun w' => g < w'.heap.size) rfl (by kernel_rfl) (by kernel_rfl) (by kernel_rfl) (by kernel_rfl) (by rfl) (fun _ h => h.1) (.inl fun _ h => h.1) (fun _ _ _ h => h) (.inl ⟨by rfl, ?hy9⟩) hSS ?_
  case hy9 =>
    intro w' hSw
    try dsimp only at hSw
    go_simp
    all_goals with_reducible rfl
  try simp only [Act.put]
  refine wpAnyB_take (i := 9) (oi := _) (v := ?vv10) (fun w' => g < w'.heap.size) rfl (by kernel_rfl) (by kernel_rfl) (by kernel_rfl) (by kernel_rfl) (by rfl) (fun _ h => h.1) (.inl fun _ h => h.1) (fun _ _ _ h => h) (.inl ⟨by rfl, ?hy10⟩) hSS ?_
  case hy10 =>
    intro w' hSw
    try dsimp only at hSw
    go_simp
    all_goals with_reducible rfl
  try simp only [Act.put]
  refine wpAnyB_take (i := 10) (oi := _) (v := ?vv11) (fun w' => g < w'.heap.size ∧ w'.cell? ⟨g, i, none⟩ = some (.int .i64 va) ∧ w'.cell? ⟨g, i + 1, none⟩ = some (.int .i64 vb)) rfl (by kernel_rfl) (by kernel_rfl) (by kernel_rfl) (by kernel_rfl) (by rfl) (fun _ h => ⟨h.1, h.2 rfl⟩) (.inr (by kernel_rfl)) (fun _ _ _ h => h) (.inl ⟨by rfl, ?hy11⟩) hSS ?_
  case hy11 =>
    intro w' hSw
    try dsimp only at hSw
    go_simp
    all_goals with_reducible rfl
  try simp only [Act.put]
  refine wpAnyB_take (i := 11) (oi := _) (v := ?vv12) (fun w' => g < w'.heap.size) rfl (by kernel_rfl) (by kernel_rfl) (by kernel_rfl) (by kernel_rfl) (by rfl) (fun _ h => h.1) (.inl fun _ h => h.1) (fun _ _ _ h => h) (.inl ⟨by rfl, ?hy12⟩) hSS ?_
  case hy12 =>
    intro w' hSw
    try dsimp only at hSw
    go_simp
    all_goals with_reducible rfl
  try simp only [Act.put]
  refine wpAnyB_take (i := 12) (oi := _) (v := ?vv13) (fun w' => g < w'.heap.size) rfl (by kernel_rfl) (by kernel_rfl) (by kernel_rfl) (by kernel_rfl) (by rfl) (fun _ h => h.1) (.inl fun _ h => h.1) (fun _ _ _ h => h) (.inl ⟨by rfl, ?hy13⟩) hSS ?_
  case hy13 =>
    intro w' hSw
    try dsimp only at hSw
    go_simp
    all_goals with_reducible rfl
  try simp only [Act.put]
  refine wpAnyB_take (i := 13) (oi := _) (v := ?vv14) (fun w' => g < w'.heap.size) rfl (by kernel_rfl) (by kernel_rfl) (by kernel_rfl) (by kernel_rfl) (by rfl) (fun _ h => h.1) (.inl fun _ h => h.1) (fun _ _ _ h => h) (.inl ⟨by rfl, ?hy14⟩) hSS ?_
  case hy14 =>
    intro w' hSw
    try dsimp only at hSw
    go_simp
    all_goals with_reducible rfl
  try simp only [Act.put]
  refine wpAnyB_take (i := 14) (oi := _) (v := ?vv15) (fun w' => g < w'.heap.size) rfl (by kernel_rfl) (by kernel_rfl) (by kernel_rfl) (by kernel_rfl) (by rfl) (fun _ h => h.1) (.inl fun _ h => h.1) (fun _ _ _ h => h) (.inl ⟨by rfl, ?hy15⟩) hSS ?_
  case hy15 =>
    intro w' hSw
    try dsimp only at hSw
    go_simp
    all_goals with_reducible rfl
  try simp only [Act.put]
  refine wpAnyB_take (i := 15) (oi := _) (v := ?vv16) (fun w' => g < w'.heap.size ∧ w'.cell? ⟨g, i, none⟩ = some (.int .i64 va) ∧ w'.cell? ⟨g, i + 1, none⟩ = some (.int .i64 vb)) rfl (by kernel_rfl) (by kernel_rfl) (by kernel_rfl) (by kernel_rfl) (by rfl) (fun _ h => ⟨h.1, h.2 rfl⟩) (.inr (by kernel_rfl)) (fun _ _ _ h => h) (.inl ⟨by rfl, ?hy16⟩) hSS ?_
  case hy16 =>
    intro w' hSw
    try dsimp only at hSw
    go_simp
    all_goals with_reducible rfl
  try simp only [Act.put]
  refine wpAnyB_take (i := 16) (oi := _) (v := ?vv17) (fun w' => g < w'.heap.size) rfl (by kernel_rfl) (by kernel_rfl) (by kernel_rfl) (by kernel_rfl) (by rfl) (fun _ h => h.1) (.inl fun _ h => h.1) (fun _ _ _ h => h) (.inl ⟨by rfl, ?hy17⟩) hSS ?_
  case hy17 =>
    intro w' hSw
    try dsimp only at hSw
    go_simp
    all_goals with_reducible rfl
  try simp only [Act.put]
  refine wpAnyB_take (i := 17) (oi := _) (v := ?vv18) (fun w' => g < w'.heap.size) rfl (by kernel_rfl) (by kernel_rfl) (by kernel_rfl) (by kernel_rfl) (by rfl) (fun _ h => h.1) (.inl fun _ h => h.1) (fun _ _ _ h => h) (.inl ⟨by rfl, ?hy18⟩) hSS ?_
  case hy18 =>
    intro w' hSw
    try dsimp only at hSw
    go_simp
    all_goals with_reducible rfl
  try simp only [Act.put]
  refine wpAnyB_take (i := 19) (oi := _) (v := ?vv19) (fun w' => g < w'.heap.size) rfl (by kernel_rfl) (by kernel_rfl) (by kernel_rfl) (by kernel_rfl) (by rfl) (fun _ h => h.1) (.inl fun _ h => h.1) (fun _ _ _ h => h) (.inl ⟨by rfl, ?hy19⟩) hSS ?_
  case hy19 =>
    intro w' hSw
    try dsimp only at hSw
    go_simp
    all_goals with_reducible rfl
  try simp only [Act.put]
  refine wpAnyB_one (i := 18) true rfl (by kernel_rfl) (by kernel_rfl) ?_
  intro KK hKK
  have y0 := hh.free i
  go_simp
  clear y0
  have h8 := hh.set i (.int .i64 vb)
  generalize hw8 : w.setCell ⟨g, i, none⟩ (.int .i64 vb) = w8 at *
  refine hKK.out _ _ ⟨h8.lt, fun hh => by cases hh⟩ ?_
  clear hKK KK
  try simp only [Act.put, List.setIfInBounds_toArray, List.set_cons_zero, List.set_cons_succ]
  refine wpAnyB_one (i := 20) true rfl (by kernel_rfl) (by kernel_rfl) ?_
  intro KK hKK
  go_simp
  refine hKK.out _ _ ⟨h8.lt, fun hh => by cases hh⟩ ?_
  clear hKK KK
  try simp only [Act.put, List.setIfInBounds_toArray, List.set_cons_zero, List.set_cons_succ]
  refine wpAnyB_one (i := 21) true rfl (by kernel_rfl) (by kernel_rfl) ?_
  intro KK hKK
  have y0 := h8.free (i + 1)
  have y1 : w8.cell? ⟨g, i + 1, none⟩ = some (.int .i64 vb) := by rw [h8.cell, List.getElem?_set_ne (by omega)]; exact hb'
  go_simp
  clear y0 y1
  refine hKK.out _ _ ⟨(h8.set (i + 1) (.int .i64 va)).lt, fun hh => by cases hh⟩ ?_
  clear hKK KK
  try simp only [Act.put, List.setIfInBounds_toArray, List.set_cons_zero, List.set_cons_succ]
  refine wpAnyB_done (by kernel_rfl) (NoPanic.normal ?_) _
  have hk8 : KeepC g w w8 ∧ KeepsOthers w w8 := by
    rw [← hw8]
    exact ⟨KeepC.set w i _, KeepsOthers.setCell _ _ _⟩
  have hk9 : KeepC g w (w8.setCell ⟨g, i + 1, none⟩ (.int .i64 va)).drew := (hk8.1.trans (KeepC.set w8 (i + 1) _)).drew
  go_end0
  exact ⟨⟨_, rfl⟩, (h8.set (i + 1) (.int .i64 va)).drew, hk9, hk8.2.trans ((KeepsOthers.setCell _ _ _).trans (KeepsOthers.drew _))⟩
end Go.Proofs.Ytdimfbmbomgiaaa
/-
  A region that draws and holds a call of yield, at the wide fence: a condition S holds throughout; what only reads under S is taken first.
-/
namespace Go.Proofs.Ytdimfbmbomgiaaa
open Go
section
variable {P : Program} {ops : Array Oper} {Q : Exit → Act → World → Prop} {md : Region.Mode} {S : World → Prop} {n : Nat}
theorem opI_put {j : Nat} {oi oj : Oper} {v : Value} (hj : ops[j]? = some oj) (hap : oi.apart ops oj = true)
    (hsi : ∀ cs b, oi.op ≠ .select cs b) (hsj : ∀ cs b, oj.op ≠ .select cs b)
    (hQ : ∀ c a w, Q (.panic c) (a.put oi.dst v) w → Q (.panic c) a w) {K : Act → World → Prop} {a : Act} {w : World}
    (hy : YieldsIf P ops S oi v a) (h : wpOpIn Fence.wide n P ops Q j K (a.put oi.dst v) w) :
    wpOpIn Fence.wide n P ops Q j (fun a' w' => YieldsIf P ops S oi v a' ∧ K (a'.put oi.dst v) w') a w := by
  obtain ⟨h1, h2, h3⟩ := Oper.apart_spec hap
  have stay : ∀ u, YieldsIf P ops S oi v (a.put oj.dst u) := fun u => hy.of_same (execOp_put oi hsi a oj.dst u h3) (wanted_put oi a oj.dst u h3)
  have fin : ∀ u w', K ((a.put oi.dst v).put oj.dst u) w' → YieldsIf P ops S oi v (a.put oj.dst u) ∧ K ((a.put oj.dst u).put oi.dst v) w' := fun u w' hk => ⟨stay u, by rw [← Act.put_comm a v u h2]; exact hk⟩
  unfold wpOpIn at h ⊢
  simp only [hj] at h ⊢
  rw [wanted_put oj a oi.dst v h1] at h
  by_cases hw : Region.wanted oj (yielded ops a.tmps) = true
  · rw [if_pos hw] at h ⊢
    refine ⟨fun _ _ => trivial, ?_⟩
    have h' := h.2
    rw [show Fence.wide.round = none from rfl, Oper.semAt_none] at h' ⊢
    rw [execOp_put oj hsj a oi.dst v h1] at h'
    cases hr : (execOp a.eval oj).run P w with
    | ok x w' =>
      rw [hr] at h'
      cases x with
      | value u => exact fin _ _ h'
      | skip => exact fin _ _ h'
      | defer dd =>
        have st : YieldsIf P ops S oi v ({ a with defers := dd :: a.defers }.put oj.dst undef) :=
          (hy.of_same (a' := { a with defers := dd :: a.defers }) rfl rfl).of_same (execOp_put oi hsi _ oj.dst undef h3) (wanted_put oi _ oj.dst undef h3)
        refine ⟨st, ?_⟩
        rw [← Act.put_comm _ v undef h2, ← Act.put_defers]
        exact h'
      | enter f args =>
        refine ⟨h'.1, CallsIn.mono h'.2 fun e w'' he => ?_⟩
        cases e with
        | returned u => exact fin _ _ he
        | panicked c => exact hQ _ _ _ he
        | outgrown => exact he
      | row row args => exact ⟨h'.1, RowsIn.mono h'.2 fun u w'' he => fin _ _ he⟩
      | round l f tmps assign body =>
        refine ⟨h'.1, RoundIn.mono h'.2 fun e w'' he => ?_⟩
        cases e with
        | returned u => exact fin _ _ he
        | panicked c => exact hQ _ _ _ he
        | outgrown => exact he
      | _ => first | exact h' | exact h'.elim
    | halt x w' =>
      rw [hr] at h'
      cases x with
      | panic u => exact hQ _ _ _ h'
      | _ => first | exact h' | exact h'.elim
  · rw [if_neg hw] at h ⊢
    exact ⟨fun _ _ => trivial, fin _ _ h.2⟩
theorem opI_yields {i : Nat} {o : Oper} {v : Value} {a : Act} (hi : ops[i]? = some o) (hy : YieldsIf P ops S o v a)
    {K : Act → World → Prop} {w : World} (hS : S w) (h : K (a.put o.dst v) w) : wpOpIn Fence.wide n P ops Q i K a w := by
  unfold Go.wpOpIn
  simp only [hi]
  rcases hy with ⟨hw, hv⟩ | ⟨hw, rfl⟩
  · rw [if_pos hw]
    refine ⟨fun _ _ => trivial, ?_⟩
    rw [show Fence.wide.round = none from rfl, Oper.semAt_none, hv w hS]
    exact h
  · rw [if_neg (by rw [hw]; simp)]
    exact ⟨fun _ _ => trivial, h⟩
def anyI (n : Nat) (P : Program) (md : Region.Mode) (ops : Array Oper) (Q : Exit → Act → World → Prop) (S : World → Prop) : Nat → Array Bool → Act → World → Prop
  | 0, listed, a, w => Region.ready md ops listed = [] ∧ Q .normal a w
  | fuel + 1, listed, a, w =>
    (Region.ready md ops listed = [] → Q .normal a w) ∧
    ∀ i ∈ Region.ready md ops listed, wpOpIn Fence.wide n P ops Q i (fun a' w' => S w' ∧ anyI n P md ops Q S fuel (listed.setIfInBounds i true) a' w') a w
theorem anyIn_of_I : ∀ (fuel : Nat) (listed : Array Bool) (a : Act) (w : World), anyI n P md ops Q S fuel listed a w → wpAnyIn Fence.wide n P md ops Q fuel listed a w
  | 0, _, _, _, h => h
  | fuel + 1, _, _, _, h => ⟨h.1, fun i hi => wpOpIn_mono (fun a' w' h' => anyIn_of_I fuel _ a' w' h'.2) (h.2 i hi)⟩
theorem anyI_first {i : Nat} {oi : Oper} {v : Value} (hi : ops[i]? = some oi) (hsel : ∀ (j : Nat) (o : Oper) cs b, ops[j]? = some o → o.op ≠ .select cs b)
    (hQ : ∀ c a w, Q (.panic c) (a.put oi.dst v) w → Q (.panic c) a w) :
    ∀ (fuel : Nat) (listed : Array Bool) (a : Act) (w : World),
      (∀ j oj, ops[j]? = some oj → j ≠ i → listed.getD j true = false → (∀ e ∈ oj.after, Region.binds md e = true → e.on ≠ i) → oi.apart ops oj = true) →
      i ∈ Region.ready md ops listed → YieldsIf P ops S oi v a → S w →
      anyI n P md ops Q S fuel (listed.setIfInBounds i true) (a.put oi.dst v) w → anyI n P md ops Q S (fuel + 1) listed a w := by
  intro fuel
  induction fuel with
  | zero =>
    intro listed a w _ hr hy hS H
    refine ⟨fun h => (by rw [h] at hr; cases hr), fun j hj => ?_⟩
    by_cases hji : j = i
    · subst hji
      exact opI_yields hi hy hS ⟨hS, H⟩
    · have := ready_mono hj hji
      rw [H.1] at this
      cases this
  | succ fuel ih =>
    intro listed a w hfree hr hy hS H
    refine ⟨fun h => (by rw [h] at hr; cases hr), fun j hj => ?_⟩
    by_cases hji : j = i
    · subst hji
      exact opI_yields hi hy hS ⟨hS, H⟩
    · have h1 := H.2 j (ready_mono hj hji)
      obtain ⟨hjun, oj, hoj, hall⟩ := mem_ready.1 hj
      have hun := (mem_ready.1 hr).1
      have hnot : ∀ e ∈ oj.after, Region.binds md e = true → e.on ≠ i := fun e he hb heq => by
        have h1 := hall e he hb
        rw [heq, getD_both hun] at h1
        cases h1
      have h2 := opI_put hoj (hfree j oj hoj hji hjun hnot) (fun cs b => hsel i oi cs b hi) (fun cs b => hsel j oj cs b hoj) hQ hy h1
      have hfree' : ∀ t ot, ops[t]? = some ot → t ≠ i → (listed.setIfInBounds j true).getD t true = false →
          (∀ e ∈ ot.after, Region.binds md e = true → e.on ≠ i) → oi.apart ops ot = true := fun t ot ht hti hun hno => by
        refine hfree t ot ht hti ?_ hno
        by_cases hjt : j = t
        · subst hjt; exact hjun
        · rw [getD_set_ne true hjt] at hun; exact hun
      refine wpOpIn_mono (fun a' w' h3 => ?_) h2
      refine ⟨h3.2.1, ih (listed.setIfInBounds j true) a' w' hfree' (ready_mono hr (Ne.symm hji)) h3.1 h3.2.1 ?_⟩
      rw [Array.setIfInBounds_comm _ _ hji]
      exact h3.2.2
theorem anyI_take {i : Nat} {oi : Oper} {v : Value} {fuel : Nat} {listed : Array Bool} {a : Act} {w : World} (hi : ops[i]? = some oi)
    (hs : Region.noSelect ops = true) (hf : Region.free md ops listed i = true) (hr : (Region.ready md ops listed).contains i = true)
    (hQ : ∀ c a w, Q (.panic c) (a.put oi.dst v) w → Q (.panic c) a w) (hy : YieldsIf P ops S oi v a) (hS : S w)
    (h : anyI n P md ops Q S fuel (listed.setIfInBounds i true) (a.put oi.dst v) w) : anyI n P md ops Q S (fuel + 1) listed a w :=
  anyI_first hi (Region.noSelect_spec hs) hQ fuel listed a w (Region.free_spec hi hf) (by simpa using hr) hy hS h
theorem anyI_one {i : Nat} {oi : Oper} {fuel : Nat} {listed : Array Bool} {a : Act} {w : World} (hi : ops[i]? = some oi) (hr : Region.ready md ops listed = [i])
    (h : wpOpIn Fence.wide n P ops Q i (fun a' w' => S w' ∧ anyI n P md ops Q S fuel (listed.setIfInBounds i true) a' w') a w) : anyI n P md ops Q S (fuel + 1) listed a w := by
  refine ⟨fun h0 => (by rw [hr] at h0; cases h0), fun j hj => ?_⟩
  rw [hr] at hj
  have : j = i := by simpa using hj
  subst this
  exact h
theorem anyI_done {listed : Array Bool} {a : Act} {w : World} (hr : Region.ready md ops listed = []) (h : Q .normal a w) : ∀ fuel, anyI n P md ops Q S fuel listed a w
  | 0 => ⟨hr, h⟩
  | _ + 1 => ⟨fun _ => h, by rw [hr]; simp⟩
theorem wp_region_I {id : Nat} {a : Act} {w : World} (S : World → Prop) (hm : P.follows .mixedOrders = true)
    (h : anyI 0 P .any ops Q S ops.size (Array.replicate ops.size false) a w.drew) : (Code.region id ops true).wp P Q a w :=
  wpIn_wide.1 (wpIn_region_any (F := Fence.wide) (n := 0) hm (anyIn_of_I _ _ _ _ h))
end
end Go.Proofs.Ytdimfbmbomgiaaa
