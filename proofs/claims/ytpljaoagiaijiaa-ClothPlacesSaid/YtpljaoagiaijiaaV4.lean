/-
  Contract of cloth's swap: the line's two cells are exchanged, all else lies as it lay.
-/
import Derived.Test.YtpljaoagiaijiaaV3
import Derived.RegionTactic
import Derived.StillTail
import Derived.Deep.RegionHeld3
import Derived.RangeFuncNested
import Derived.RangeFuncCalls
import Derived.OrdersIn
namespace Go.Proofs.Ytpljaoagiaijiaa
open Go.RowKit
/-- all blocks but one lie as they lay -/
structure KeepC (gL : Nat) (A B : World) : Prop where
  os : B.os = A.os
  tape : B.tape = A.tape
  output : B.output = A.output
  size : A.heap.size ≤ B.heap.size
  same : ∀ r, r < A.heap.size → r ≠ gL → B.heap[r]? = A.heap[r]?
theorem KeepC.trans {gL : Nat} {A B C : World} (h : KeepC gL A B) (k : KeepC gL B C) : KeepC gL A C :=
  ⟨k.os.trans h.os, k.tape.trans h.tape, k.output.trans h.output, Nat.le_trans h.size k.size, fun r hr hl => (k.same r (Nat.lt_of_lt_of_le hr h.size) hl).trans (h.same r hr hl)⟩
theorem KeepC.of_below {gL : Nat} {A B : World} (h : Below A.heap.size A B) : KeepC gL A B := ⟨h.os, h.tape, h.output, h.size, fun r hr _ => h.block r hr⟩
theorem KeepC.drew {gL : Nat} {A B : World} (h : KeepC gL A B) : KeepC gL A B.drew := ⟨h.os, h.tape, h.output, h.size, h.same⟩
theorem KeepC.set {g : Nat} (A : World) (i : Nat) (u : Value) : KeepC g A (A.setCell ⟨g, i, none⟩ u) := by
  have h := (Below.refl 0 A).setCell (p := ⟨g, i, none⟩) (Nat.zero_le _) u
  exact ⟨h.os, h.tape, h.output, h.size, fun r _ hl => Below.heap_setCell A _ u r hl⟩
theorem KeepsOthers.drew (W : World) : KeepsOthers W W.drew := ⟨Nat.le_refl _, fun _ _ h _ => h⟩
set_option maxRecDepth 100000 in
set_option maxHeartbeats 1000000 in
theorem swap65 (g i : Nat) (cs : List Value) (va vb : Int) (w : World) (hh : Has w g 74 cs) (hi : i + 1 < 48) (ha' : cs[i]? = some (.int .i64 va)) (hb' : cs[i + 1]? = some (.int .i64 vb)) :
    Calls Try.prog 40 #[.pointer (some ⟨g, 0, none⟩), .int .i64 (i : Int)] w fun e w' => (∃ v, e = .returned v) ∧ Has w' g 74 ((cs.set i (.int .i64 vb)).set (i + 1) (.int .i64 va)) ∧ KeepC g w w' ∧ KeepsOthers w w' := by
  have hg := hh.lt
  have ha : w.cell? ⟨g, i, none⟩ = some (.int .i64 va) := (hh.cell i).trans ha'
  have hb : w.cell? ⟨g, i + 1, none⟩ = some (.int .i64 vb) := (hh.cell (i + 1)).trans hb'
  have i1 : IntKind.i64.wrap ((i : Int) + 1) = (i : Int) + 1 := IntWalk.i64_in _ (by omega)
  have i2 : ((i : Int) + 1).toNat = i + 1 := by omega
  have i3 : (0 : Int) ≤ (i : Int) + 1 := by omega
  have i4 : (i : Int) + 1 < 48 := by omega
  have i5 : (i : Int) < 48 := by omega
  have i6 : i < 48 := by omega
  go_enter Try.func40, Try.ntmps40
  go_wp2
  refine wp_region_noPanic ?_
  refine wp_region_B (fun b w' => g < w'.heap.size ∧ (b = false → w'.cell? ⟨g, i, none⟩ = some (.int .i64 va) ∧ w'.cell? ⟨g, i + 1, none⟩ = some (.int .i64 vb))) 18 (by kernel_rfl) ?_
  have hSS : (fun b w' => g < w'.heap.size ∧ (b = false → w'.cell? ⟨g, i, none⟩ = some (.int .i64 va) ∧ w'.cell? ⟨g, i + 1, none⟩ = some (.int .i64 vb))) false (w.drew) := ⟨hg, fun _ => ⟨ha, hb⟩⟩
  refine wpAnyB_take (i := 0) (oi := _) (v := ?vv1) (fun w' => g < w'.heap.size) rfl (by kernel_rfl) (by kernel_rfl) (by kernel_rfl) (by kernel_rfl) (by rfl) (fun _ h => h.1) (.inl fun _ h => h.1) (fun _ _ _ h => h) (.inl ⟨by rfl, ?hy1⟩) hSS ?_
  case hy1 =>
    intro w' hSw
    try dsimp only at hSw
    go_simp
    all_goals with_reducible rfl
  try simp only [Act.put, List.setIfInBounds_toArray]
  refine wpAnyB_take (i := 1) (oi := _) (v := ?vv2) (fun w' => g < w'.heap.size) rfl (by kernel_rfl) (by kernel_rfl) (by kernel_rfl) (by kernel_rfl) (by rfl) (fun _ h => h.1) (.inl fun _ h => h.1) (fun _ _ _ h => h) (.inl ⟨by rfl, ?hy2⟩) hSS ?_
  case hy2 =>
    intro w' hSw
    try dsimp only at hSw
    go_simp
    all_goals with_reducible rfl
  try simp only [Act.put]
  refine wpAnyB_take (i := 2) (oi := _) (v := ?vv3) (fun w' => g < w'.heap.size) rfl (by kernel_rfl) (by kernel_rfl) (by kernel_rfl) (by kernel_rfl) (by rfl) (fun _ h => h.1) (.inl fun _ h => h.1) (fun _ _ _ h => h) (.inl ⟨by rfl, ?hy3⟩) hSS ?_
  case hy3 =>
    intro w' hSw
    try dsimp only at hSw
    go_simp
    all_goals with_reducible rfl
  try simp only [Act.put]
  refine wpAnyB_take (i := 3) (oi := _) (v := ?vv4) (fun w' => g < w'.heap.size) rfl (by kernel_rfl) (by kernel_rfl) (by kernel_rfl) (by kernel_rfl) (by rfl) (fun _ h => h.1) (.inl fun _ h => h.1) (fun _ _ _ h => h) (.inl ⟨by rfl, ?hy4⟩) hSS ?_
  case hy4 =>
    intro w' hSw
    try dsimp only at hSw
    go_simp
    all_goals with_reducible rfl
  try simp only [Act.put]
  refine wpAnyB_take (i := 4) (oi := _) (v := ?vv5) (fun w' => g < w'.heap.size) rfl (by kernel_rfl) (by kernel_rfl) (by kernel_rfl) (by kernel_rfl) (by rfl) (fun _ h => h.1) (.inl fun _ h => h.1) (fun _ _ _ h => h) (.inl ⟨by rfl, ?hy5⟩) hSS ?_
  case hy5 =>
    intro w' hSw
    try dsimp only at hSw
    go_simp
    all_goals with_reducible rfl
  try simp only [Act.put]
  refine wpAnyB_take (i := 5) (oi := _) (v := ?vv6) (fun w' => g < w'.heap.size) rfl (by kernel_rfl) (by kernel_rfl) (by kernel_rfl) (by kernel_rfl) (by rfl) (fun _ h => h.1) (.inl fun _ h => h.1) (fun _ _ _ h => h) (.inl ⟨by rfl, ?hy6⟩) hSS ?_
  case hy6 =>
    intro w' hSw
    try dsimp only at hSw
    go_simp
    all_goals with_reducible rfl
  try simp only [Act.put]
  refine wpAnyB_take (i := 6) (oi := _) (v := ?vv7) (fun w' => g < w'.heap.size) rfl (by kernel_rfl) (by kernel_rfl) (by kernel_rfl) (by kernel_rfl) (by rfl) (fun _ h => h.1) (.inl fun _ h => h.1) (fun _ _ _ h => h) (.inl ⟨by rfl, ?hy7⟩) hSS ?_
  case hy7 =>
    intro w' hSw
    try dsimp only at hSw
    go_simp
    all_goals with_reducible rfl
  try simp only [Act.put]
  refine wpAnyB_take (i := 7) (oi := _) (v := ?vv8) (fun w' => g < w'.heap.size) rfl (by kernel_rfl) (by kernel_rfl) (by kernel_rfl) (by kernel_rfl) (by rfl) (fun _ h => h.1) (.inl fun _ h => h.1) (fun _ _ _ h => h) (.inl ⟨by rfl, ?hy8⟩) hSS ?_
  case hy8 =>
    intro w' hSw
    try dsimp only at hSw
    go_simp
    all_goals with_reducible rfl
  try simp only [Act.put]
  refine wpAnyB_take (i := 8) (oi := _) (v := ?vv9) (fun w' => g < w'.heap.size) rfl (by kernel_rfl) (by kernel_rfl) (by kernel_rfl) (by kernel_rfl) (by rfl) (fun _ h => h.1) (.inl fun _ h => h.1) (fun _ _ _ h => h) (.inl ⟨by rfl, ?hy9⟩) hSS ?_
  case hy9 =>
    intro w' hSw
    try dsimp only at hSw
    go_simp
    all_goals with_reducible rfl
  try simp only [Act.put]
  refine wpAnyB_take (i := 9) (oi := _) (v := ?vv10) (fun w' => g < w'.heap.size) rfl (by kernel_rfl) (by kernel_rfl) (by kernel_rfl) (by kernel_rfl) (by rfl) (fun _ h => h.1) (.inl fun _ h => h.1) (fun _ _ _ h => h) (.inl ⟨by rfl, ?hy10⟩) hSS ?_
  case hy10 =>
    intro w' hSw
    try dsimp only at hSw
    go_simp
    all_goals with_reducible rfl
  try simp only [Act.put]
  refine wpAnyB_take (i := 10) (oi := _) (v := ?vv11) (fun w' => g < w'.heap.size ∧ w'.cell? ⟨g, i, none⟩ = some (.int .i64 va) ∧ w'.cell? ⟨g, i + 1, none⟩ = some (.int .i64 vb)) rfl (by kernel_rfl) (by kernel_rfl) (by kernel_rfl) (by kernel_rfl) (by rfl) (fun _ h => ⟨h.1, h.2 rfl⟩) (.inr (by kernel_rfl)) (fun _ _ _ h => h) (.inl ⟨by rfl, ?hy11⟩) hSS ?_
  case hy11 =>
    intro w' hSw
    try dsimp only at hSw
    go_simp
    all_goals with_reducible rfl
  try simp only [Act.put]
  refine wpAnyB_take (i := 11) (oi := _) (v := ?vv12) (fun w' => g < w'.heap.size) rfl (by kernel_rfl) (by kernel_rfl) (by kernel_rfl) (by kernel_rfl) (by rfl) (fun _ h => h.1) (.inl fun _ h => h.1) (fun _ _ _ h => h) (.inl ⟨by rfl, ?hy12⟩) hSS ?_
  case hy12 =>
    intro w' hSw
    try dsimp only at hSw
    go_simp
    all_goals with_reducible rfl
  try simp only [Act.put]
  refine wpAnyB_take (i := 12) (oi := _) (v := ?vv13) (fun w' => g < w'.heap.size) rfl (by kernel_rfl) (by kernel_rfl) (by kernel_rfl) (by kernel_rfl) (by rfl) (fun _ h => h.1) (.inl fun _ h => h.1) (fun _ _ _ h => h) (.inl ⟨by rfl, ?hy13⟩) hSS ?_
  case hy13 =>
    intro w' hSw
    try dsimp only at hSw
    go_simp
    all_goals with_reducible rfl
  try simp only [Act.put]
  refine wpAnyB_take (i := 13) (oi := _) (v := ?vv14) (fun w' => g < w'.heap.size) rfl (by kernel_rfl) (by kernel_rfl) (by kernel_rfl) (by kernel_rfl) (by rfl) (fun _ h => h.1) (.inl fun _ h => h.1) (fun _ _ _ h => h) (.inl ⟨by rfl, ?hy14⟩) hSS ?_
  case hy14 =>
    intro w' hSw
    try dsimp only at hSw
    go_simp
    all_goals with_reducible rfl
  try simp only [Act.put]
  refine wpAnyB_take (i := 14) (oi := _) (v := ?vv15) (fun w' => g < w'.heap.size) rfl (by kernel_rfl) (by kernel_rfl) (by kernel_rfl) (by kernel_rfl) (by rfl) (fun _ h => h.1) (.inl fun _ h => h.1) (fun _ _ _ h => h) (.inl ⟨by rfl, ?hy15⟩) hSS ?_
  case hy15 =>
    intro w' hSw
    try dsimp only at hSw
    go_simp
    all_goals with_reducible rfl
  try simp only [Act.put]
  refine wpAnyB_take (i := 15) (oi := _) (v := ?vv16) (fun w' => g < w'.heap.size ∧ w'.cell? ⟨g, i, none⟩ = some (.int .i64 va) ∧ w'.cell? ⟨g, i + 1, none⟩ = some (.int .i64 vb)) rfl (by kernel_rfl) (by kernel_rfl) (by kernel_rfl) (by kernel_rfl) (by rfl) (fun _ h => ⟨h.1, h.2 rfl⟩) (.inr (by kernel_rfl)) (fun _ _ _ h => h) (.inl ⟨by rfl, ?hy16⟩) hSS ?_
  case hy16 =>
    intro w' hSw
    try dsimp only at hSw
    go_simp
    all_goals with_reducible rfl
  try simp only [Act.put]
  refine wpAnyB_take (i := 16) (oi := _) (v := ?vv17) (fun w' => g < w'.heap.size) rfl (by kernel_rfl) (by kernel_rfl) (by kernel_rfl) (by kernel_rfl) (by rfl) (fun _ h => h.1) (.inl fun _ h => h.1) (fun _ _ _ h => h) (.inl ⟨by rfl, ?hy17⟩) hSS ?_
  case hy17 =>
    intro w' hSw
    try dsimp only at hSw
    go_simp
    all_goals with_reducible rfl
  try simp only [Act.put]
  refine wpAnyB_take (i := 17) (oi := _) (v := ?vv18) (fun w' => g < w'.heap.size) rfl (by kernel_rfl) (by kernel_rfl) (by kernel_rfl) (by kernel_rfl) (by rfl) (fun _ h => h.1) (.inl fun _ h => h.1) (fun _ _ _ h => h) (.inl ⟨by rfl, ?hy18⟩) hSS ?_
  case hy18 =>
    intro w' hSw
    try dsimp only at hSw
    go_simp
    all_goals with_reducible rfl
  try simp only [Act.put]
  refine wpAnyB_take (i := 19) (oi := _) (v := ?vv19) (fun w' => g < w'.heap.size) rfl (by kernel_rfl) (by kernel_rfl) (by kernel_rfl) (by kernel_rfl) (by rfl) (fun _ h => h.1) (.inl fun _ h => h.1) (fun _ _ _ h => h) (.inl ⟨by rfl, ?hy19⟩) hSS ?_
  case hy19 =>
    intro w' hSw
    try dsimp only at hSw
    go_simp
    all_goals with_reducible rfl
  try simp only [Act.put]
  refine wpAnyB_one (i := 18) true rfl (by kernel_rfl) (by kernel_rfl) ?_
  intro KK hKK
  have y0 := hh.free i
  go_simp
  clear y0
  have h8 := hh.set i (.int .i64 vb)
  generalize hw8 : w.setCell ⟨g, i, none⟩ (.int .i64 vb) = w8 at *
  refine hKK.out _ _ ⟨h8.lt, fun hh => by cases hh⟩ ?_
  clear hKK KK
  try simp only [Act.put, List.setIfInBounds_toArray, List.set_cons_zero, List.set_cons_succ]
  refine wpAnyB_one (i := 20) true rfl (by kernel_rfl) (by kernel_rfl) ?_
  intro KK hKK
  go_simp
  refine hKK.out _ _ ⟨h8.lt, fun hh => by cases hh⟩ ?_
  clear hKK KK
  try simp only [Act.put, List.setIfInBounds_toArray, List.set_cons_zero, List.set_cons_succ]
  refine wpAnyB_one (i := 21) true rfl (by kernel_rfl) (by kernel_rfl) ?_
  intro KK hKK
  have y0 := h8.free (i + 1)
  have y1 : w8.cell? ⟨g, i + 1, none⟩ = some (.int .i64 vb) := by rw [h8.cell, List.getElem?_set_ne (by omega)]; exact hb'
  go_simp
  clear y0 y1
  refine hKK.out _ _ ⟨(h8.set (i + 1) (.int .i64 va)).lt, fun hh => by cases hh⟩ ?_
  clear hKK KK
  try simp only [Act.put, List.setIfInBounds_toArray, List.set_cons_zero, List.set_cons_succ]
  refine wpAnyB_done (by kernel_rfl) (NoPanic.normal ?_) _
  have hk8 : KeepC g w w8 ∧ KeepsOthers w w8 := by
    rw [← hw8]
    exact ⟨KeepC.set w i _, KeepsOthers.setCell _ _ _⟩
  have hk9 : KeepC g w (w8.setCell ⟨g, i + 1, none⟩ (.int .i64 va)).drew := (hk8.1.trans (KeepC.set w8 (i + 1) _)).drew
  go_end0
  exact ⟨⟨_, rfl⟩, (h8.set (i + 1) (.int .i64 va)).drew, hk9, hk8.2.trans ((KeepsOthers.setCell _ _ _).trans (KeepsOthers.drew _))⟩
end Go.Proofs.Ytpljaoagiaijiaa
/-
  A region that draws and holds a call of yield, at the wide fence: a condition S holds throughout; what only reads under S is taken first.
-/
namespace Go.Proofs.Ytpljaoagiaijiaa
open Go
section
variable {P : Program} {ops : Array Oper} {Q : Exit → Act → World → Prop} {md : Region.Mode} {S : World → Prop} {n : Nat}
theorem opI_put {j : Nat} {oi oj : Oper} {v : Value} (hj : ops[j]? = some oj) (hap : oi.apart ops oj = true)
    (hsi : ∀ cs b, oi.op ≠ .select cs b) (hsj : ∀ cs b, oj.op ≠ .select cs b)
    (hQ : ∀ c a w, Q (.panic c) (a.put oi.dst v) w → Q (.panic c) a w) {K : Act → World → Prop} {a : Act} {w : World}
    (hy : YieldsIf P ops S oi v a) (h : wpOpIn Fence.wide n P ops Q j K (a.put oi.dst v) w) :
    wpOpIn Fence.wide n P ops Q j (fun a' w' => YieldsIf P ops S oi v a' ∧ K (a'.put oi.dst v) w') a w := by
  obtain ⟨h1, h2, h3⟩ := Oper.apart_spec hap
  have stay : ∀ u, YieldsIf P ops S oi v (a.put oj.dst u) := fun u => hy.of_same (execOp_put oi hsi a oj.dst u h3) (wanted_put oi a oj.dst u h3)
  have fin : ∀ u w', K ((a.put oi.dst v).put oj.dst u) w' → YieldsIf P ops S oi v (a.put oj.dst u) ∧ K ((a.put oj.dst u).put oi.dst v) w' := fun u w' hk => ⟨stay u, by rw [← Act.put_comm a v u h2]; exact hk⟩
  unfold wpOpIn at h ⊢
  simp only [hj] at h ⊢
  rw [wanted_put oj a oi.dst v h1] at h
  by_cases hw : Region.wanted oj (yielded ops a.tmps) = true
  · rw [if_pos hw] at h ⊢
    refine ⟨fun _ _ => trivial, ?_⟩
    have h' := h.2
    rw [show Fence.wide.round = none from rfl, Oper.semAt_none] at h' ⊢
    rw [execOp_put oj hsj a oi.dst v h1] at h'
    cases hr : (execOp a.eval oj).run P w with
    | ok x w' =>
      rw [hr] at h'
      cases x with
      | value u => exact fin _ _ h'
      | skip => exact fin _ _ h'
      | defer dd =>
        have st : YieldsIf P ops S oi v ({ a with defers := dd :: a.defers }.put oj.dst undef) :=
          (hy.of_same (a' := { a with defers := dd :: a.defers }) rfl rfl).of_same (execOp_put oi hsi _ oj.dst undef h3) (wanted_put oi _ oj.dst undef h3)
        refine ⟨st, ?_⟩
        rw [← Act.put_comm _ v undef h2, ← Act.put_defers]
        exact h'
      | enter f args =>
        refine ⟨h'.1, CallsIn.mono h'.2 fun e w'' he => ?_⟩
        cases e with
        | returned u => exact fin _ _ he
        | panicked c => exact hQ _ _ _ he
        | outgrown => exact he
      | row row args => exact ⟨h'.1, RowsIn.mono h'.2 fun u w'' he => fin _ _ he⟩
      | round l f tmps assign body =>
        refine ⟨h'.1, RoundIn.mono h'.2 fun e w'' he => ?_⟩
        cases e with
        | returned u => exact fin _ _ he
        | panicked c => exact hQ _ _ _ he
        | outgrown => exact he
      | _ => first | exact h' | exact h'.elim
    | halt x w' =>
      rw [hr] at h'
      cases x with
      | panic u => exact hQ _ _ _ h'
      | _ => first | exact h' | exact h'.elim
  · rw [if_neg hw] at h ⊢
    exact ⟨fun _ _ => trivial, fin _ _ h.2⟩
theorem opI_yields {i : Nat} {o : Oper} {v : Value} {a : Act} (hi : ops[i]? = some o) (hy : YieldsIf P ops S o v a)
    {K : Act → World → Prop} {w : World} (hS : S w) (h : K (a.put o.dst v) w) : wpOpIn Fence.wide n P ops Q i K a w := by
  unfold Go.wpOpIn
  simp only [hi]
  rcases hy with ⟨hw, hv⟩ | ⟨hw, rfl⟩
  · rw [if_pos hw]
    refine ⟨fun _ _ => trivial, ?_⟩
    rw [show Fence.wide.round = none from rfl, Oper.semAt_none, hv w hS]
    exact h
  · rw [if_neg (by rw [hw]; simp)]
    exact ⟨fun _ _ => trivial, h⟩
def anyI (n : Nat) (P : Program) (md : Region.Mode) (ops : Array Oper) (Q : Exit → Act → World → Prop) (S : World → Prop) : Nat → Array Bool → Act → World → Prop
  | 0, listed, a, w => Region.ready md ops listed = [] ∧ Q .normal a w
  | fuel + 1, listed, a, w =>
    (Region.ready md ops listed = [] → Q .normal a w) ∧
    ∀ i ∈ Region.ready md ops listed, wpOpIn Fence.wide n P ops Q i (fun a' w' => S w' ∧ anyI n P md ops Q S fuel (listed.setIfInBounds i true) a' w') a w
theorem anyIn_of_I : ∀ (fuel : Nat) (listed : Array Bool) (a : Act) (w : World), anyI n P md ops Q S fuel listed a w → wpAnyIn Fence.wide n P md ops Q fuel listed a w
  | 0, _, _, _, h => h
  | fuel + 1, _, _, _, h => ⟨h.1, fun i hi => wpOpIn_mono (fun a' w' h' => anyIn_of_I fuel _ a' w' h'.2) (h.2 i hi)⟩
theorem anyI_first {i : Nat} {oi : Oper} {v : Value} (hi : ops[i]? = some oi) (hsel : ∀ (j : Nat) (o : Oper) cs b, ops[j]? = some o → o.op ≠ .select cs b)
    (hQ : ∀ c a w, Q (.panic c) (a.put oi.dst v) w → Q (.panic c) a w) :
    ∀ (fuel : Nat) (listed : Array Bool) (a : Act) (w : World),
      (∀ j oj, ops[j]? = some oj → j ≠ i → listed.getD j true = false → (∀ e ∈ oj.after, Region.binds md e = true → e.on ≠ i) → oi.apart ops oj = true) →
      i ∈ Region.ready md ops listed → YieldsIf P ops S oi v a → S w →
      anyI n P md ops Q S fuel (listed.setIfInBounds i true) (a.put oi.dst v) w → anyI n P md ops Q S (fuel + 1) listed a w := by
  intro fuel
  induction fuel with
  | zero =>
    intro listed a w _ hr hy hS H
    refine ⟨fun h => (by rw [h] at hr; cases hr), fun j hj => ?_⟩
    by_cases hji : j = i
    · subst hji
      exact opI_yields hi hy hS ⟨hS, H⟩
    · have := ready_mono hj hji
      rw [H.1] at this
      cases this
  | succ fuel ih =>
    intro listed a w hfree hr hy hS H
    refine ⟨fun h => (by rw [h] at hr; cases hr), fun j hj => ?_⟩
    by_cases hji : j = i
    · subst hji
      exact opI_yields hi hy hS ⟨hS, H⟩
    · have h1 := H.2 j (ready_mono hj hji)
      obtain ⟨hjun, oj, hoj, hall⟩ := mem_ready.1 hj
      have hun := (mem_ready.1 hr).1
      have hnot : ∀ e ∈ oj.after, Region.binds md e = true → e.on ≠ i := fun e he hb heq => by
        have h1 := hall e he hb
        rw [heq, getD_both hun] at h1
        cases h1
      have h2 := opI_put hoj (hfree j oj hoj hji hjun hnot) (fun cs b => hsel i oi cs b hi) (fun cs b => hsel j oj cs b hoj) hQ hy h1
      have hfree' : ∀ t ot, ops[t]? = some ot → t ≠ i → (listed.setIfInBounds j true).getD t true = false →
          (∀ e ∈ ot.after, Region.binds md e = true → e.on ≠ i) → oi.apart ops ot = true := fun t ot ht hti hun hno => by
        refine hfree t ot ht hti ?_ hno
        by_cases hjt : j = t
        · subst hjt; exact hjun
        · rw [getD_set_ne true hjt] at hun; exact hun
      refine wpOpIn_mono (fun a' w' h3 => ?_) h2
      refine ⟨h3.2.1, ih (listed.setIfInBounds j true) a' w' hfree' (ready_mono hr (Ne.symm hji)) h3.1 h3.2.1 ?_⟩
      rw [Array.setIfInBounds_comm _ _ hji]
      exact h3.2.2
theorem anyI_take {i : Nat} {oi : Oper} {v : Value} {fuel : Nat} {listed : Array Bool} {a : Act} {w : World} (hi : ops[i]? = some oi)
    (hs : Region.noSelect ops = true) (hf : Region.free md ops listed i = true) (hr : (Region.ready md ops listed).contains i = true)
    (hQ : ∀ c a w, Q (.panic c) (a.put oi.dst v) w → Q (.panic c) a w) (hy : YieldsIf P ops S oi v a) (hS : S w)
    (h : anyI n P md ops Q S fuel (listed.setIfInBounds i true) (a.put oi.dst v) w) : anyI n P md ops Q S (fuel + 1) listed a w :=
  anyI_first hi (Region.noSelect_spec hs) hQ fuel listed a w (Region.free_spec hi hf) (by simpa using hr) hy hS h
theorem anyI_one {i : Nat} {oi : Oper} {fuel : Nat} {listed : Array Bool} {a : Act} {w : World} (hi : ops[i]? = some oi) (hr : Region.ready md ops listed = [i])
    (h : wpOpIn Fence.wide n P ops Q i (fun a' w' => S w' ∧ anyI n P md ops Q S fuel (listed.setIfInBounds i true) a' w') a w) : anyI n P md ops Q S (fuel + 1) listed a w := by
  refine ⟨fun h0 => (by rw [hr] at h0; cases h0), fun j hj => ?_⟩
  rw [hr] at hj
  have : j = i := by simpa using hj
  subst this
  exact h
theorem anyI_done {listed : Array Bool} {a : Act} {w : World} (hr : Region.ready md ops listed = []) (h : Q .normal a w) : ∀ fuel, anyI n P md ops Q S fuel listed a w
  | 0 => ⟨hr, h⟩
  | _ + 1 => ⟨fun _ => h, by rw [hr]; simp⟩
theorem wp_region_I {id : Nat} {a : Act} {w : World} (S : World → Prop) (hm : P.follows .mixedOrders = true)
    (h : anyI 0 P .any ops Q S ops.size (Array.replicate ops.size false) a w.drew) : (Code.region id ops true).wp P Q a w :=
  wpIn_wide.1 (wpIn_region_any (F := Fence.wide) (n := 0) hm (anyIn_of_I _ _ _ _ h))
end
end Go.Proofs.Ytpljaoagiaijiaa
/-
  The iterator cloth.crossings: each crossing with the threads in its places before it; the line follows.
-/
namespace Go.Proofs.Ytpljaoagiaijiaa
open Go.RowKit
theorem roundI_any {P : Program} {l : Nat} {fn : FuncId} {tmps : Array Value} {assign body : Code} {w : World} {R : Ending → World → Prop} {n m : Nat} (h : RoundIn Fence.wide n P l fn tmps assign body w R) : RoundIn Fence.wide m P l fn tmps assign body w R :=
  ⟨h.1, fun c cs _ => h.2 c cs (fun d hd => by cases hd)⟩
theorem opI_round {P : Program} {ops : Array Oper} {Q : Exit → Act → World → Prop} {n i l : Nat} {o : Oper} {a : Act} {w : World} {K : Act → World → Prop} {fn : FuncId} {tmps : Array Value} {assign body : Code} {R : Ending → World → Prop}
    (hi : ops[i]? = some o) (hw : Region.wanted o (yielded ops a.tmps) = true) (hx : (execOp a.eval o).run P w = .ok (.round l fn tmps assign body) w)
    (hR : RoundIn Fence.wide 0 P l fn tmps assign body w R) (h : ∀ e w', R e w' → ∃ u, e = .returned u ∧ K (a.put o.dst u) w') : wpOpIn Fence.wide n P ops Q i K a w := by
  unfold wpOpIn
  simp only [hi]
  rw [if_pos hw]
  refine ⟨fun _ _ => trivial, ?_⟩
  rw [show Fence.wide.round = none from rfl, Oper.semAt_none, hx]
  refine ⟨fun h => by simp [Fence.wide] at h, RoundIn.mono (roundI_any hR) fun e w' he => ?_⟩
  obtain ⟨u, rfl, hk⟩ := h e w' he
  exact hk
def swapL (L : List Int) (x : Q4) : List Int := (L.set x.b.toNat (L.getD (x.b.toNat + 1) 0)).set (x.b.toNat + 1) (L.getD x.b.toNat 0)
/-- the line behind the first k crossings -/
def lineTo (xs : List Q4) (L : List Int) : Nat → List Int
  | 0 => L
  | k + 1 => match xs[k]? with
    | some x => swapL (lineTo xs L k) x
    | none => lineTo xs L k
abbrev Met := Q4 × Int × Int
def met (xs : List Q4) (L : List Int) (j : Nat) : Met := (xs.getD j ⟨0, 0, 0, 0⟩, (lineTo xs L j).getD (xs.getD j ⟨0, 0, 0, 0⟩).b.toNat 0, (lineTo xs L j).getD ((xs.getD j ⟨0, 0, 0, 0⟩).b.toNat + 1) 0)
def came (xs : List Q4) (L : List Int) (k : Nat) : List Met := (List.range k).map (met xs L)
def encM (p : Met) : Array Value := #[.agg #[.int .i64 p.1.a, .int .i64 p.1.b, .int .i64 p.1.c, .int .i64 p.1.d], .agg #[.int .i64 p.2.1, .int .i64 p.2.2]]
theorem cell_same {w w' : World} {a : Addr} (h : w'.heap[a.block]? = w.heap[a.block]?) : w'.cell? a = w.cell? a := by unfold World.cell?; rw [h]
theorem lineTo_len (xs : List Q4) (L : List Int) (k : Nat) : (lineTo xs L k).length = L.length := by
  induction k with
  | zero => rfl
  | succ k ih =>
    unfold lineTo
    split
    · unfold swapL; rw [List.length_set, List.length_set, ih]
    · exact ih
theorem came_succ (xs : List Q4) (L : List Int) (k : Nat) : came xs L (k + 1) = came xs L k ++ [met xs L k] := by simp [came, List.range_succ]
theorem came_len (xs : List Q4) (L : List Int) (k : Nat) : (came xs L k).length = k := by simp [came]
set_option maxRecDepth 100000 in
set_option maxHeartbeats 1000000 in
theorem iter64 (I Ix : List Met → World → Prop) (l dd bR : Nat) (rc0 rc1 : Loop) (bc bp gL n c d m w0 : Nat) (t : Int) (A B : Option Addr) (xs : List Q4) (L : List Int) (W : World)
    (hIc : ∀ pre V V', I pre V → KeepC gL V V' → KeepsOthers V V' → I pre V') (hl : l < W.heap.size) (hne : gL ≠ l) (hbc : bc < W.heap.size) (hbp : bp < W.heap.size) (nbc : bc ≠ l) (nbp : bp ≠ l) (nbc' : bc ≠ gL) (nbp' : bp ≠ gL)
    (h1 : W.cell? ⟨bc, 1, none⟩ = some (.slice A n c)) (h2 : W.cell? ⟨bp, 0, none⟩ = some (.pointer (some ⟨gL, 0, none⟩))) (hn : n ≤ 20000) (hL : L.length = 48) (hx : RdQ W w0 A xs) (hw0 : w0 ≤ W.heap.size) (hwl : w0 ≤ l) (hwg : w0 ≤ gL) (hxl : xs.length = n)
    (hr : ∀ x ∈ xs, 0 ≤ x.b ∧ x.b ≤ 46) (hG : Has W gL 74 (L.map vInt)) (h0 : Mid I l dd rc0 [] W)
    (hY : ∀ pre x W1, Mid I l dd rc0 pre W1 → YieldAt Fence.wide 0 Try.prog l (encM x) W1 fun e W' => (e = .returned (.bool true) ∧ Mid I l dd rc0 (pre ++ [x]) W' ∧ KeepBut l W1 W') ∨ (e = .returned (.bool false) ∧ Mid Ix l dd rc1 (pre ++ [x]) W' ∧ KeepBut2 l bR W1 W')) (nbR : bR < W.heap.size) (nR1 : gL ≠ bR) (nR2 : bp ≠ bR) :
    Calls Try.prog 67 #[.func (.yield l) #[] #[], .pointer (some ⟨bc, 0, none⟩), .pointer (some ⟨bp, 0, none⟩)] W fun e W' => (∃ v, e = .returned v) ∧ ((Mid I l dd rc0 (came xs L n) W') ∨ (∃ k, k ≤ n ∧ Mid Ix l dd rc1 (came xs L k) W')) := by
  have HX := Lib.hid hx; clear hx
  have HXL := Lib.hid hxl; clear hxl
  have HR := Lib.hid hr; clear hr
  have HY := Lib.hid hY; clear hY
  have HIc := Lib.hid hIc; clear hIc
  go_enter Try.func67, Try.ntmps67
  go_wp2
  go_loopw [9] (fun v wr => ∃ k : Nat, k ≤ n ∧ v = .int .i64 (k : Int) ∧ Mid I l dd rc0 (came xs L k) wr ∧ Has wr gL 74 ((lineTo xs L k).map vInt) ∧ W.heap.size ≤ wr.heap.size ∧ (∀ r, r < W.heap.size → r ≠ l → r ≠ gL → wr.heap[r]? = W.heap[r]?)) (fun v _ => n - (intOf v).toNat)
  case atStart => exact ⟨0, Nat.zero_le _, rfl, h0, hG, Nat.le_refl _, fun _ _ _ _ => rfl⟩
  case round =>
    clear h0 hG
    obtain ⟨k, hk, rfl, hM, hG, hsz, hkeep⟩ := hrel
    obtain ⟨wo, rfl⟩ : ∃ wo : World, wo = wr := ⟨_, rfl⟩
    have HM := Lib.hid hM; clear hM
    have HG := Lib.hid hG; clear hG
    have a1 : wo.cell? ⟨bc, 1, none⟩ = some (.slice A n c) := (cell_same (hkeep bc hbc nbc nbc')).trans h1
    have a2 : wo.cell? ⟨bp, 0, none⟩ = some (.pointer (some ⟨gL, 0, none⟩)) := (cell_same (hkeep bp hbp nbp nbp')).trans h2
    by_cases hlt : k < n
    · obtain ⟨x, hx⟩ := get_of_lt (l := xs) (k := k) (by rw [HXL.out]; exact hlt)
      obtain ⟨ba, o, rfl, hba, c0, c1, c2, c3⟩ := HX.out _ x hx
      obtain ⟨hb0, hb1⟩ := HR.out x (mem_of_get hx)
      have sba := hkeep ba (Nat.lt_of_lt_of_le hba hw0) (by omega) (by omega)
      have k0 := (cell_same (a := ⟨ba, o + k * 4, none⟩) sba).trans c0
      have k1 := (cell_same (a := ⟨ba, o + k * 4 + 1, none⟩) sba).trans c1
      have k2 := (cell_same (a := ⟨ba, o + k * 4 + 2, none⟩) sba).trans c2
      have k3 := (cell_same (a := ⟨ba, o + k * 4 + 3, none⟩) sba).trans c3
      obtain ⟨i, hi⟩ := Int.eq_ofNat_of_zero_le hb0
      have hiT : i + 1 < 48 := by omega
      obtain ⟨va, hva⟩ := get_of_lt (l := lineTo xs L k) (k := i) (by rw [lineTo_len, hL]; omega)
      obtain ⟨vb, hvb⟩ := get_of_lt (l := lineTo xs L k) (k := i + 1) (by rw [lineTo_len, hL]; exact hiT)
      have g0 : wo.cell? ⟨gL, i, none⟩ = some (.int .i64 va) := (HG.out.cell i).trans (by rw [List.getElem?_map, hva]; rfl)
      have g1 : wo.cell? ⟨gL, i + 1, none⟩ = some (.int .i64 vb) := (HG.out.cell (i + 1)).trans (by rw [List.getElem?_map, hvb]; rfl)
      have hmet : met xs L k = (x, va, vb) := by
        unfold met
        have e1 : xs.getD k ⟨0, 0, 0, 0⟩ = x := by rw [List.getD_eq_getElem?_getD, hx]; rfl
        rw [e1, hi]
        have e2 : ((i : Nat) : Int).toNat = i := by simp
        rw [e2, List.getD_eq_getElem?_getD, List.getD_eq_getElem?_getD, hva, hvb]; rfl
      rw [hi] at k1
      have HI := Lib.hid hi
      have HMET := Lib.hid hmet
      have HVA := Lib.hid hva
      have HVB := Lib.hid hvb
      have HXk := Lib.hid hx
      clear hx c0 c1 c2 c3 hi hmet hva hvb
      have i1 : IntKind.i64.wrap ((i : Int) + 1) = (i : Int) + 1 := IntWalk.i64_in _ (by omega)
      have i2 : ((i : Int) + 1).toNat = i + 1 := by omega
      have i3 : (0 : Int) ≤ (i : Int) + 1 := by omega
      have i4 : (i : Int) + 1 < 48 := by omega
      have i5 : (i : Int) < 48 := by omega
      have i6 : i < 48 := by omega
      have z1 : bc < wo.heap.size := by omega
      have z2 : bp < wo.heap.size := by omega
      have z3 := HG.out.lt
      have z4 : ba < wo.heap.size := by omega
      go_wp2
      have x0 : (wo.alloc (.cells #[.int .i64 x.a, .int .i64 (i : Int), .int .i64 x.c, .int .i64 x.d] 70)).cell? ⟨wo.heap.size, 0, none⟩ = some (.int .i64 x.a) := by go_simp
      have x1 : (wo.alloc (.cells #[.int .i64 x.a, .int .i64 (i : Int), .int .i64 x.c, .int .i64 x.d] 70)).cell? ⟨wo.heap.size, 1, none⟩ = some (.int .i64 (i : Int)) := by go_simp
      have x2 : (wo.alloc (.cells #[.int .i64 x.a, .int .i64 (i : Int), .int .i64 x.c, .int .i64 x.d] 70)).cell? ⟨wo.heap.size, 2, none⟩ = some (.int .i64 x.c) := by go_simp
      have x3 : (wo.alloc (.cells #[.int .i64 x.a, .int .i64 (i : Int), .int .i64 x.c, .int .i64 x.d] 70)).cell? ⟨wo.heap.size, 3, none⟩ = some (.int .i64 x.d) := by go_simp
      have hBW : Below wo.heap.size wo (wo.alloc (.cells #[.int .i64 x.a, .int .i64 (i : Int), .int .i64 x.c, .int .i64 x.d] 70)) := by go_grown
      have hKW : KeepsOthers wo (wo.alloc (.cells #[.int .i64 x.a, .int .i64 (i : Int), .int .i64 x.c, .int .i64 x.d] 70)) := KeepsOthers.alloc _ _
      have qx : wo.heap.size < (wo.alloc (.cells #[.int .i64 x.a, .int .i64 (i : Int), .int .i64 x.c, .int .i64 x.d] 70)).heap.size := by simp
      generalize (wo.alloc (.cells #[.int .i64 x.a, .int .i64 (i : Int), .int .i64 x.c, .int .i64 x.d] 70)) = W1 at *
      have G1 := Lib.hid (HG.out.below hBW z3)
      have M1 := Lib.hid (HM.out.go hKW (HIc.out _ _ _ HM.out.inv (KeepC.of_below hBW) hKW))
      have y0 := (hBW.cell (p := ⟨gL, i, none⟩) z3).trans g0
      have y1 := (hBW.cell (p := ⟨gL, i + 1, none⟩) z3).trans g1
      have y2 := (hBW.cell (p := ⟨bp, 0, none⟩) z2).trans a2
      refine wp_region_noPanic ?_
      refine wp_region_I (fun w' => w'.cell? ⟨wo.heap.size, 0, none⟩ = some (.int .i64 x.a) ∧ w'.cell? ⟨wo.heap.size, 1, none⟩ = some (.int .i64 (i : Int)) ∧ w'.cell? ⟨wo.heap.size, 2, none⟩ = some (.int .i64 x.c) ∧ w'.cell? ⟨wo.heap.size, 3, none⟩ = some (.int .i64 x.d) ∧ w'.cell? ⟨gL, i, none⟩ = some (.int .i64 va) ∧ w'.cell? ⟨gL, i + 1, none⟩ = some (.int .i64 vb) ∧ w'.cell? ⟨bp, 0, none⟩ = some (.pointer (some ⟨gL, 0, none⟩))) (by kernel_rfl) ?_
      have hSS : (fun w' => w'.cell? ⟨wo.heap.size, 0, none⟩ = some (.int .i64 x.a) ∧ w'.cell? ⟨wo.heap.size, 1, none⟩ = some (.int .i64 (i : Int)) ∧ w'.cell? ⟨wo.heap.size, 2, none⟩ = some (.int .i64 x.c) ∧ w'.cell? ⟨wo.heap.size, 3, none⟩ = some (.int .i64 x.d) ∧ w'.cell? ⟨gL, i, none⟩ = some (.int .i64 va) ∧ w'.cell? ⟨gL, i + 1, none⟩ = some (.int .i64 vb) ∧ w'.cell? ⟨bp, 0, none⟩ = some (.pointer (some ⟨gL, 0, none⟩))) W1.drew := ⟨x0, x1, x2, x3, y0, y1, y2⟩
      refine anyI_take (i := 0) (oi := _) (v := ?vvit0) rfl (by kernel_rfl) (by kernel_rfl) (by kernel_rfl) (fun _ _ _ h => h) (.inl ⟨by rfl, ?hyit0⟩) hSS ?_
      case hyit0 =>
        intro w' hSw
        try dsimp only at hSw
        go_simp
        all_goals with_reducible rfl
      try simp only [Act.put, List.setIfInBounds_toArray]
      refine anyI_take (i := 1) (oi := _) (v := ?vvit1) rfl (by kernel_rfl) (by kernel_rfl) (by kernel_rfl) (fun _ _ _ h => h) (.inl ⟨by rfl, ?hyit1⟩) hSS ?_
      case hyit1 =>
        intro w' hSw
        try dsimp only at hSw
        go_simp
        all_goals with_reducible rfl
      try simp only [Act.put]
      refine anyI_take (i := 2) (oi := _) (v := ?vvit2) rfl (by kernel_rfl) (by kernel_rfl) (by kernel_rfl) (fun _ _ _ h => h) (.inl ⟨by rfl, ?hyit2⟩) hSS ?_
      case hyit2 =>
        intro w' hSw
        try dsimp only at hSw
        go_simp
        all_goals with_reducible rfl
      try simp only [Act.put]
      refine anyI_take (i := 3) (oi := _) (v := ?vvit3) rfl (by kernel_rfl) (by kernel_rfl) (by kernel_rfl) (fun _ _ _ h => h) (.inl ⟨by rfl, ?hyit3⟩) hSS ?_
      case hyit3 =>
        intro w' hSw
        try dsimp only at hSw
        go_simp
        all_goals with_reducible rfl
      try simp only [Act.put]
      refine anyI_take (i := 4) (oi := _) (v := ?vvit4) rfl (by kernel_rfl) (by kernel_rfl) (by kernel_rfl) (fun _ _ _ h => h) (.inl ⟨by rfl, ?hyit4⟩) hSS ?_
      case hyit4 =>
        intro w' hSw
        try dsimp only at hSw
        go_simp
        all_goals with_reducible rfl
      try simp only [Act.put]
      refine anyI_take (i := 5) (oi := _) (v := ?vvit5) rfl (by kernel_rfl) (by kernel_rfl) (by kernel_rfl) (fun _ _ _ h => h) (.inl ⟨by rfl, ?hyit5⟩) hSS ?_
      case hyit5 =>
        intro w' hSw
        try dsimp only at hSw
        go_simp
        all_goals with_reducible rfl
      try simp only [Act.put]
      refine anyI_take (i := 6) (oi := _) (v := ?vvit6) rfl (by kernel_rfl) (by kernel_rfl) (by kernel_rfl) (fun _ _ _ h => h) (.inl ⟨by rfl, ?hyit6⟩) hSS ?_
      case hyit6 =>
        intro w' hSw
        try dsimp only at hSw
        go_simp
        all_goals with_reducible rfl
      try simp only [Act.put]
      refine anyI_take (i := 7) (oi := _) (v := ?vvit7) rfl (by kernel_rfl) (by kernel_rfl) (by kernel_rfl) (fun _ _ _ h => h) (.inl ⟨by rfl, ?hyit7⟩) hSS ?_
      case hyit7 =>
        intro w' hSw
        try dsimp only at hSw
        go_simp
        all_goals with_reducible rfl
      try simp only [Act.put]
      refine anyI_take (i := 8) (oi := _) (v := ?vvit8) rfl (by kernel_rfl) (by kernel_rfl) (by kernel_rfl) (fun _ _ _ h => h) (.inl ⟨by rfl, ?hyit8⟩) hSS ?_
      case hyit8 =>
        intro w' hSw
        try dsimp only at hSw
        go_simp
        all_goals with_reducible rfl
      try simp only [Act.put]
      refine anyI_take (i := 9) (oi := _) (v := ?vvit9) rfl (by kernel_rfl) (by kernel_rfl) (by kernel_rfl) (fun _ _ _ h => h) (.inl ⟨by rfl, ?hyit9⟩) hSS ?_
      case hyit9 =>
        intro w' hSw
        try dsimp only at hSw
        go_simp
        all_goals with_reducible rfl
      try simp only [Act.put]
      refine anyI_take (i := 10) (oi := _) (v := ?vvit10) rfl (by kernel_rfl) (by kernel_rfl) (by kernel_rfl) (fun _ _ _ h => h) (.inl ⟨by rfl, ?hyit10⟩) hSS ?_
      case hyit10 =>
        intro w' hSw
        try dsimp only at hSw
        go_simp
        all_goals with_reducible rfl
      try simp only [Act.put]
      refine anyI_take (i := 11) (oi := _) (v := ?vvit11) rfl (by kernel_rfl) (by kernel_rfl) (by kernel_rfl) (fun _ _ _ h => h) (.inl ⟨by rfl, ?hyit11⟩) hSS ?_
      case hyit11 =>
        intro w' hSw
        try dsimp only at hSw
        go_simp
        all_goals with_reducible rfl
      try simp only [Act.put]
      refine anyI_take (i := 12) (oi := _) (v := ?vvit12) rfl (by kernel_rfl) (by kernel_rfl) (by kernel_rfl) (fun _ _ _ h => h) (.inl ⟨by rfl, ?hyit12⟩) hSS ?_
      case hyit12 =>
        intro w' hSw
        try dsimp only at hSw
        go_simp
        all_goals with_reducible rfl
      try simp only [Act.put]
      refine anyI_take (i := 13) (oi := _) (v := ?vvit13) rfl (by kernel_rfl) (by kernel_rfl) (by kernel_rfl) (fun _ _ _ h => h) (.inl ⟨by rfl, ?hyit13⟩) hSS ?_
      case hyit13 =>
        intro w' hSw
        try dsimp only at hSw
        go_simp
        all_goals with_reducible rfl
      try simp only [Act.put]
      refine anyI_take (i := 14) (oi := _) (v := ?vvit14) rfl (by kernel_rfl) (by kernel_rfl) (by kernel_rfl) (fun _ _ _ h => h) (.inl ⟨by rfl, ?hyit14⟩) hSS ?_
      case hyit14 =>
        intro w' hSw
        try dsimp only at hSw
        go_simp
        all_goals with_reducible rfl
      try simp only [Act.put]
      refine anyI_take (i := 15) (oi := _) (v := ?vvit15) rfl (by kernel_rfl) (by kernel_rfl) (by kernel_rfl) (fun _ _ _ h => h) (.inl ⟨by rfl, ?hyit15⟩) hSS ?_
      case hyit15 =>
        intro w' hSw
        try dsimp only at hSw
        go_simp
        all_goals with_reducible rfl
      try simp only [Act.put]
      have hYk := HY.out _ (x, va, vb) W1.drew (M1.out.go (KeepsOthers.drew W1) (HIc.out _ _ _ M1.out.inv (KeepC.of_below (Below.refl _ W1)).drew (KeepsOthers.drew W1)))
      have eM : encM (x, va, vb) = #[.agg #[.int .i64 x.a, .int .i64 (i : Int), .int .i64 x.c, .int .i64 x.d], .agg #[.int .i64 va, .int .i64 vb]] := by rw [← HI.out]; rfl
      rw [eM] at hYk
      clear eM
      unfold YieldAt at hYk
      obtain ⟨fn, tmps, assign, body, hy, hR⟩ := hYk
      have HRR := Lib.hid hR
      clear hR
      refine anyI_one (i := 16) rfl (by kernel_rfl) ?_
      refine opI_round (o := { dst := some 29, op := .call { callee := .value (.tmp 13), args := #[.tmp 14, .tmp 28], argTypes := #[70, 54] }, type := 4, pos := "cloth.go:68", after := #[{ on := 0, ground := .data }, { on := 1, ground := .data }, { on := 15, ground := .data }], guard := none }) (l := l) (fn := fn) (tmps := tmps) (assign := assign) (body := body) rfl (by rfl) ?_ HRR.out ?_
      · go_simp
      · rintro e w3 (⟨rfl, hM3, hKB⟩ | ⟨rfl, hM3, hKB⟩)
        · have hold : ∀ r, r < W1.heap.size → r ≠ l → w3.heap[r]? = W1.heap[r]? := fun r hr hl => hKB.2 r hr hl
          have hk : ∀ r, r < W1.heap.size → r = wo.heap.size ∨ r = gL ∨ r = bp → w3.heap[r]? = W1.heap[r]? := fun r hr hx => hold r hr (by rcases hx with e | e | e <;> omega)
          have s0 := (cell_same (a := ⟨wo.heap.size, 0, none⟩) (hk wo.heap.size qx (.inl rfl))).trans x0
          have s1 := (cell_same (a := ⟨wo.heap.size, 1, none⟩) (hk wo.heap.size qx (.inl rfl))).trans x1
          have s2 := (cell_same (a := ⟨wo.heap.size, 2, none⟩) (hk wo.heap.size qx (.inl rfl))).trans x2
          have s3 := (cell_same (a := ⟨wo.heap.size, 3, none⟩) (hk wo.heap.size qx (.inl rfl))).trans x3
          have s4 := (cell_same (a := ⟨gL, i, none⟩) (hk gL G1.out.lt (.inr (.inl rfl)))).trans y0
          have s5 := (cell_same (a := ⟨gL, i + 1, none⟩) (hk gL G1.out.lt (.inr (.inl rfl)))).trans y1
          have s6 := (cell_same (a := ⟨bp, 0, none⟩) (hk bp (by omega) (.inr (.inr rfl)))).trans y2
          refine ⟨_, rfl, ⟨s0, s1, s2, s3, s4, s5, s6⟩, ?_⟩
          try simp only [Act.put]
          refine anyI_take (i := 17) (oi := _) (v := ?vvzt) rfl (by kernel_rfl) (by kernel_rfl) (by kernel_rfl) (fun _ _ _ h => h) (.inl ⟨by rfl, ?hyzt⟩) ⟨s0, s1, s2, s3, s4, s5, s6⟩ ?_
          case hyzt =>
            intro w' hSw
            try dsimp only at hSw
            go_simp
            all_goals with_reducible rfl
          simp only [Act.put, List.getElem_toArray, List.getElem_cons_succ, List.getElem_cons_zero, List.setIfInBounds_toArray, List.set_cons_zero, List.set_cons_succ]
          refine anyI_done (by kernel_rfl) (NoPanic.normal ?_) _
          have qx3 : wo.heap.size < w3.heap.size := Nat.lt_of_lt_of_le qx hKB.1
          have q3 : bp < w3.heap.size := by omega
          have q4 : gL < w3.heap.size := Nat.lt_of_lt_of_le G1.out.lt hKB.1
          have G3 : Has w3 gL 74 ((lineTo xs L k).map vInt) := G1.out.same (hk gL G1.out.lt (.inr (.inl rfl)))
          have ea : ((lineTo xs L k).map vInt)[i]? = some (.int .i64 va) := by rw [List.getElem?_map, HVA.out]; rfl
          have eb : ((lineTo xs L k).map vInt)[i + 1]? = some (.int .i64 vb) := by rw [List.getElem?_map, HVB.out]; rfl
          have HEA := Lib.hid ea; have HEB := Lib.hid eb; clear ea eb
          have HOLD := Lib.hid hold; clear hold hk hy
          have HKB := Lib.hid hKB; clear hKB
          have HKEEP := Lib.hid hkeep; clear hkeep
          clear x0 x1 x2 x3 y0 y1 y2 g0 g1 a1 a2 k0 k1 k2 k3
          go_wp2_with fail
          refine (swap65 gL i ((lineTo xs L k).map vInt) va vb w3 G3 hiT HEA.out HEB.out).mono ?_
          rintro e w4 ⟨⟨v, rfl⟩, hG4, hKC, hKO⟩
          go_wp2
          go_roundw
          case rel =>
            have hln : lineTo xs L (k + 1) = ((lineTo xs L k).set i vb).set (i + 1) va := by
              show (match xs[k]? with | some x => swapL (lineTo xs L k) x | none => lineTo xs L k) = _
              rw [HXk.out]
              show swapL (lineTo xs L k) x = _
              have e2 : ((i : Nat) : Int).toNat = i := by simp
              unfold swapL
              rw [HI.out, e2, List.getD_eq_getElem?_getD, List.getD_eq_getElem?_getD, HVA.out, HVB.out]; rfl
            refine ⟨k + 1, by omega, by go_num, ?_, ?_, ?_, ?_⟩
            · rw [came_succ, HMET.out]; exact hM3.go hKO (HIc.out _ _ _ hM3.inv hKC hKO)
            · rw [hln]; simpa only [List.map_set] using hG4
            · have h1 := hKC.size; have h2 := HKB.out.1; have h3 := hBW.size; have h4 : W1.drew.heap.size = W1.heap.size := rfl; omega
            · intro r hr hr1 hr2
              have hrw : r < wo.heap.size := by omega
              have hr3 : r < W1.heap.size := by omega
              have hr4 : r < w3.heap.size := by have := HKB.out.1; have h4 : W1.drew.heap.size = W1.heap.size := rfl; omega
              exact (hKC.same r hr4 hr2).trans ((HOLD.out r hr3 hr1).trans ((hBW.block r hrw).trans (HKEEP.out r hr hr1 hr2)))
          case measure => first | (simp [intOf]; done) | (simp [intOf]; omega)
        · have hk : ∀ r, r < W1.heap.size → r = wo.heap.size ∨ r = gL ∨ r = bp → w3.heap[r]? = W1.heap[r]? := fun r hr hx => hKB.2 r hr (by rcases hx with e | e | e <;> omega) (by rcases hx with e | e | e <;> omega)
          have s0 := (cell_same (a := ⟨wo.heap.size, 0, none⟩) (hk wo.heap.size qx (.inl rfl))).trans x0
          have s1 := (cell_same (a := ⟨wo.heap.size, 1, none⟩) (hk wo.heap.size qx (.inl rfl))).trans x1
          have s2 := (cell_same (a := ⟨wo.heap.size, 2, none⟩) (hk wo.heap.size qx (.inl rfl))).trans x2
          have s3 := (cell_same (a := ⟨wo.heap.size, 3, none⟩) (hk wo.heap.size qx (.inl rfl))).trans x3
          have s4 := (cell_same (a := ⟨gL, i, none⟩) (hk gL G1.out.lt (.inr (.inl rfl)))).trans y0
          have s5 := (cell_same (a := ⟨gL, i + 1, none⟩) (hk gL G1.out.lt (.inr (.inl rfl)))).trans y1
          have s6 := (cell_same (a := ⟨bp, 0, none⟩) (hk bp (by omega) (.inr (.inr rfl)))).trans y2
          refine ⟨_, rfl, ⟨s0, s1, s2, s3, s4, s5, s6⟩, ?_⟩
          try simp only [Act.put]
          refine anyI_take (i := 17) (oi := _) (v := ?vvzf) rfl (by kernel_rfl) (by kernel_rfl) (by kernel_rfl) (fun _ _ _ h => h) (.inl ⟨by rfl, ?hyzf⟩) ⟨s0, s1, s2, s3, s4, s5, s6⟩ ?_
          case hyzf =>
            intro w' hSw
            try dsimp only at hSw
            go_simp
            all_goals with_reducible rfl
          simp only [Act.put, List.getElem_toArray, List.getElem_cons_succ, List.getElem_cons_zero, List.setIfInBounds_toArray, List.set_cons_zero, List.set_cons_succ]
          refine anyI_done (by kernel_rfl) (NoPanic.normal ?_) _
          clear hk hy x0 x1 x2 x3 y0 y1 y2 g0 g1 a1 a2 k0 k1 k2 k3 hkeep
          go_wp2
          refine bodyPost_ret (results_none rfl _ _ _) rfl ?_
          exact ⟨⟨_, rfl⟩, .inr ⟨k + 1, by omega, by rw [came_succ, HMET.out]; exact hM3⟩⟩
    · --END
      obtain rfl : k = n := by omega
      go_wp2
      go_end0
      exact ⟨⟨_, rfl⟩, .inl HM.out⟩
end Go.Proofs.Ytpljaoagiaijiaa
