/-
  Contract of cloth's swap: the line's two cells are exchanged, all else lies as it lay.
-/
import Derived.Test.YtpljaoagiaijiaaRng
import Derived.Test.YtpljaoagiaijiaaHeadB
import Derived.RegionTactic
namespace Go.Proofs.Ytpljaoagiaijiaa
open Go.RowKit
/-- all blocks but one lie as they lay -/
structure KeepC (gL : Nat) (A B : World) : Prop where
  os : B.os = A.os
  tape : B.tape = A.tape
  output : B.output = A.output
  size : A.heap.size ≤ B.heap.size
  same : ∀ r, r < A.heap.size → r ≠ gL → B.heap[r]? = A.heap[r]?
theorem KeepC.trans {gL : Nat} {A B C : World} (h : KeepC gL A B) (k : KeepC gL B C) : KeepC gL A C :=
  ⟨k.os.trans h.os, k.tape.trans h.tape, k.output.trans h.output, Nat.le_trans h.size k.size, fun r hr hl => (k.same r (Nat.lt_of_lt_of_le hr h.size) hl).trans (h.same r hr hl)⟩
theorem KeepC.of_below {gL : Nat} {A B : World} (h : Below A.heap.size A B) : KeepC gL A B := ⟨h.os, h.tape, h.output, h.size, fun r hr _ => h.block r hr⟩
theorem KeepC.drew {gL : Nat} {A B : World} (h : KeepC gL A B) : KeepC gL A B.drew := ⟨h.os, h.tape, h.output, h.size, h.same⟩
theorem KeepC.set {g : Nat} (A : World) (i : Nat) (u : Value) : KeepC g A (A.setCell ⟨g, i, none⟩ u) := by
  have h := (Below.refl 0 A).setCell (p := ⟨g, i, none⟩) (Nat.zero_le _) u
  exact ⟨h.os, h.tape, h.output, h.size, fun r _ hl => Below.heap_setCell A _ u r hl⟩
theorem KeepsOthers.drew (W : World) : KeepsOthers W W.drew := ⟨Nat.le_refl _, fun _ _ h _ => h⟩
set_option maxRecDepth 100000 in
set_option maxHeartbeats 1000000 in
theorem swap65 (g i : Nat) (cs : List Value) (va vb : Int) (w : World) (hh : Has w g 74 cs) (hi : i + 1 < 48) (ha' : cs[i]? = some (.int .i64 va)) (hb' : cs[i + 1]? = some (.int .i64 vb)) :
    Calls Try.prog 40 #[.pointer (some ⟨g, 0, none⟩), .int .i64 (i : Int)] w fun e w' => (∃ v, e = .returned v) ∧ Has w' g 74 ((cs.set i (.int .i64 vb)).set (i + 1) (.int .i64 va)) ∧ KeepC g w w' ∧ KeepsOthers w w' := by
  have hg := hh.lt
  have ha : w.cell? ⟨g, i, none⟩ = some (.int .i64 va) := (hh.cell i).trans ha'
  have hb : w.cell? ⟨g, i + 1, none⟩ = some (.int .i64 vb) := (hh.cell (i + 1)).trans hb'
  have i1 : IntKind.i64.wrap ((i : Int) + 1) = (i : Int) + 1 := IntWalk.i64_in _ (by omega)
  have i2 : ((i : Int) + 1).toNat = i + 1 := by omega
  have i3 : (0 : Int) ≤ (i : Int) + 1 := by omega
  have i4 : (i : Int) + 1 < 48 := by omega
  have i5 : (i : Int) < 48 := by omega
  have i6 : i < 48 := by omega
  go_enter Try.func40, Try.ntmps40
  go_wp2
  refine wp_region_noPanic ?_
  refine wp_region_B (fun b w' => g < w'.heap.size ∧ (b = false → w'.cell? ⟨g, i, none⟩ = some (.int .i64 va) ∧ w'.cell? ⟨g, i + 1, none⟩ = some (.int .i64 vb))) 18 (by kernel_rfl) ?_
  have hSS : (fun b w' => g < w'.heap.size ∧ (b = false → w'.cell? ⟨g, i, none⟩ = some (.int .i64 va) ∧ w'.cell? ⟨g, i + 1, none⟩ = some (.int .i64 vb))) false (w.drew) := ⟨hg, fun _ => ⟨ha, hb⟩⟩
  refine wpAnyB_take (i := 0) (oi := _) (v := ?vv1) (fun w' => g < w'.heap.size) rfl (by kernel_rfl) (by kernel_rfl) (by kernel_rfl) (by kernel_rfl) (by rfl) (fun _ h => h.1) (.inl fun _ h => h.1) (fun _ _ _ h => h) (.inl ⟨by rfl, ?hy1⟩) hSS ?_
  case hy1 =>
    intro w' hSw
    try dsimp only at hSw
    go_simp
    all_goals with_reducible rfl
  try simp only [Act.put, List.setIfInBounds_toArray]
  refine wpAnyB_take (i := 1) (oi := _) (v := ?vv2) (fun w' => g < w'.heap.size) rfl (by kernel_rfl) (by kernel_rfl) (by kernel_rfl) (by kernel_rfl) (by rfl) (fun _ h => h.1) (.inl fun _ h => h.1) (fun _ _ _ h => h) (.inl ⟨by rfl, ?hy2⟩) hSS ?_
  case hy2 =>
    intro w' hSw
    try dsimp only at hSw
    go_simp
    all_goals with_reducible rfl
  try simp only [Act.put]
  refine wpAnyB_take (i := 2) (oi := _) (v := ?vv3) (fun w' => g < w'.heap.size) rfl (by kernel_rfl) (by kernel_rfl) (by kernel_rfl) (by kernel_rfl) (by rfl) (fun _ h => h.1) (.inl fun _ h => h.1) (fun _ _ _ h => h) (.inl ⟨by rfl, ?hy3⟩) hSS ?_
  case hy3 =>
    intro w' hSw
    try dsimp only at hSw
    go_simp
    all_goals with_reducible rfl
  try simp only [Act.put]
  refine wpAnyB_take (i := 3) (oi := _) (v := ?vv4) (fun w' => g < w'.heap.size) rfl (by kernel_rfl) (by kernel_rfl) (by kernel_rfl) (by kernel_rfl) (by rfl) (fun _ h => h.1) (.inl fun _ h => h.1) (fun _ _ _ h => h) (.inl ⟨by rfl, ?hy4⟩) hSS ?_
  case hy4 =>
    intro w' hSw
    try dsimp only at hSw
    go_simp
    all_goals with_reducible rfl
  try simp only [Act.put]
  refine wpAnyB_take (i := 4) (oi := _) (v := ?vv5) (fun w' => g < w'.heap.size) rfl (by kernel_rfl) (by kernel_rfl) (by kernel_rfl) (by kernel_rfl) (by rfl) (fun _ h => h.1) (.inl fun _ h => h.1) (fun _ _ _ h => h) (.inl ⟨by rfl, ?hy5⟩) hSS ?_
  case hy5 =>
    intro w' hSw
    try dsimp only at hSw
    go_simp
    all_goals with_reducible rfl
  try simp only [Act.put]
  refine wpAnyB_take (i := 5) (oi := _) (v := ?vv6) (fun w' => g < w'.heap.size) rfl (by kernel_rfl) (by kernel_rfl) (by kernel_rfl) (by kernel_rfl) (by rfl) (fun _ h => h.1) (.inl fun _ h => h.1) (fun _ _ _ h => h) (.inl ⟨by rfl, ?hy6⟩) hSS ?_
  case hy6 =>
    intro w' hSw
    try dsimp only at hSw
    go_simp
    all_goals with_reducible rfl
  try simp only [Act.put]
  refine wpAnyB_take (i := 6) (oi := _) (v := ?vv7) (fun w' => g < w'.heap.size) rfl (by kernel_rfl) (by kernel_rfl) (by kernel_rfl) (by kernel_rfl) (by rfl) (fun _ h => h.1) (.inl fun _ h => h.1) (fun _ _ _ h => h) (.inl ⟨by rfl, ?hy7⟩) hSS ?_
  case hy7 =>
    intro w' hSw
    try dsimp only at hSw
    go_simp
    all_goals with_reducible rfl
  try simp only [Act.put]
  refine wpAnyB_take (i := 7) (oi := _) (v := ?vv8) (fun w' => g < w'.heap.size) rfl (by kernel_rfl) (by kernel_rfl) (by kernel_rfl) (by kernel_rfl) (by rfl) (fun _ h => h.1) (.inl fun _ h => h.1) (fun _ _ _ h => h) (.inl ⟨by rfl, ?hy8⟩) hSS ?_
  case hy8 =>
    intro w' hSw
    try dsimp only at hSw
    go_simp
    all_goals with_reducible rfl
  try simp only [Act.put]
  refine wpAnyB_take (i := 8) (oi := _) (v := ?vv9) (fun w' => g < w'.heap.size) rfl (by kernel_rfl) (by kernel_rfl) (by kernel_rfl) (by kernel_rfl) (by rfl) (fun _ h => h.1) (.inl fun _ h => h.1) (fun _ _ _ h => h) (.inl ⟨by rfl, ?hy9⟩) hSS ?_
  case hy9 =>
    intro w' hSw
    try dsimp only at hSw
    go_simp
    all_goals with_reducible rfl
  try simp only [Act.put]
  refine wpAnyB_take (i := 9) (oi := _) (v := ?vv10) (fun w' => g < w'.heap.size) rfl (by kernel_rfl) (by kernel_rfl) (by kernel_rfl) (by kernel_rfl) (by rfl) (fun _ h => h.1) (.inl fun _ h => h.1) (fun _ _ _ h => h) (.inl ⟨by rfl, ?hy10⟩) hSS ?_
  case hy10 =>
    intro w' hSw
    try dsimp only at hSw
    go_simp
    all_goals with_reducible rfl
  try simp only [Act.put]
  refine wpAnyB_take (i := 10) (oi := _) (v := ?vv11) (fun w' => g < w'.heap.size ∧ w'.cell? ⟨g, i, none⟩ = some (.int .i64 va) ∧ w'.cell? ⟨g, i + 1, none⟩ = some (.int .i64 vb)) rfl (by kernel_rfl) (by kernel_rfl) (by kernel_rfl) (by kernel_rfl) (by rfl) (fun _ h => ⟨h.1, h.2 rfl⟩) (.inr (by kernel_rfl)) (fun _ _ _ h => h) (.inl ⟨by rfl, ?hy11⟩) hSS ?_
  case hy11 =>
    intro w' hSw
    try dsimp only at hSw
    go_simp
    all_goals with_reducible rfl
  try simp only [Act.put]
  refine wpAnyB_take (i := 11) (oi := _) (v := ?vv12) (fun w' => g < w'.heap.size) rfl (by kernel_rfl) (by kernel_rfl) (by kernel_rfl) (by kernel_rfl) (by rfl) (fun _ h => h.1) (.inl fun _ h => h.1) (fun _ _ _ h => h) (.inl ⟨by rfl, ?hy12⟩) hSS ?_
  case hy12 =>
    intro w' hSw
    try dsimp only at hSw
    go_simp
    all_goals with_reducible rfl
  try simp only [Act.put]
  refine wpAnyB_take (i := 12) (oi := _) (v := ?vv13) (fun w' => g < w'.heap.size) rfl (by kernel_rfl) (by kernel_rfl) (by kernel_rfl) (by kernel_rfl) (by rfl) (fun _ h => h.1) (.inl fun _ h => h.1) (fun _ _ _ h => h) (.inl ⟨by rfl, ?hy13⟩) hSS ?_
  case hy13 =>
    intro w' hSw
    try dsimp only at hSw
    go_simp
    all_goals with_reducible rfl
  try simp only [Act.put]
  refine wpAnyB_take (i := 13) (oi := _) (v := ?vv14) (fun w' => g < w'.heap.size) rfl (by kernel_rfl) (by kernel_rfl) (by kernel_rfl) (by kernel_rfl) (by rfl) (fun _ h => h.1) (.inl fun _ h => h.1) (fun _ _ _ h => h) (.inl ⟨by rfl, ?hy14⟩) hSS ?_
  case hy14 =>
    intro w' hSw
    try dsimp only at hSw
    go_simp
    all_goals with_reducible rfl
  try simp only [Act.put]
  refine wpAnyB_take (i := 14) (oi := _) (v := ?vv15) (fun w' => g < w'.heap.size) rfl (by kernel_rfl) (by kernel_rfl) (by kernel_rfl) (by kernel_rfl) (by rfl) (fun _ h => h.1) (.inl fun _ h => h.1) (fun _ _ _ h => h) (.inl ⟨by rfl, ?hy15⟩) hSS ?_
  case hy15 =>
    intro w' hSw
    try dsimp only at hSw
    go_simp
    all_goals with_reducible rfl
  try simp only [Act.put]
  refine wpAnyB_take (i := 15) (oi := _) (v := ?vv16) (fun w' => g < w'.heap.size ∧ w'.cell? ⟨g, i, none⟩ = some (.int .i64 va) ∧ w'.cell? ⟨g, i + 1, none⟩ = some (.int .i64 vb)) rfl (by kernel_rfl) (by kernel_rfl) (by kernel_rfl) (by kernel_rfl) (by rfl) (fun _ h => ⟨h.1, h.2 rfl⟩) (.inr (by kernel_rfl)) (fun _ _ _ h => h) (.inl ⟨by rfl, ?hy16⟩) hSS ?_
  case hy16 =>
    intro w' hSw
    try dsimp only at hSw
    go_simp
    all_goals with_reducible rfl
  try simp only [Act.put]
  refine wpAnyB_take (i := 16) (oi := _) (v := ?vv17) (fun w' => g < w'.heap.size) rfl (by kernel_rfl) (by kernel_rfl) (by kernel_rfl) (by kernel_rfl) (by rfl) (fun _ h => h.1) (.inl fun _ h => h.1) (fun _ _ _ h => h) (.inl ⟨by rfl, ?hy17⟩) hSS ?_
  case hy17 =>
    intro w' hSw
    try dsimp only at hSw
    go_simp
    all_goals with_reducible rfl
  try simp only [Act.put]
  refine wpAnyB_take (i := 17) (oi := _) (v := ?vv18) (fun w' => g < w'.heap.size) rfl (by kernel_rfl) (by kernel_rfl) (by kernel_rfl) (by kernel_rfl) (by rfl) (fun _ h => h.1) (.inl fun _ h => h.1) (fun _ _ _ h => h) (.inl ⟨by rfl, ?hy18⟩) hSS ?_
  case hy18 =>
    intro w' hSw
    try dsimp only at hSw
    go_simp
    all_goals with_reducible rfl
  try simp only [Act.put]
  refine wpAnyB_take (i := 19) (oi := _) (v := ?vv19) (fun w' => g < w'.heap.size) rfl (by kernel_rfl) (by kernel_rfl) (by kernel_rfl) (by kernel_rfl) (by rfl) (fun _ h => h.1) (.inl fun _ h => h.1) (fun _ _ _ h => h) (.inl ⟨by rfl, ?hy19⟩) hSS ?_
  case hy19 =>
    intro w' hSw
    try dsimp only at hSw
    go_simp
    all_goals with_reducible rfl
  try simp only [Act.put]
  refine wpAnyB_one (i := 18) true rfl (by kernel_rfl) (by kernel_rfl) ?_
  intro KK hKK
  have y0 := hh.free i
  go_simp
  clear y0
  have h8 := hh.set i (.int .i64 vb)
  generalize hw8 : w.setCell ⟨g, i, none⟩ (.int .i64 vb) = w8 at *
  refine hKK.out _ _ ⟨h8.lt, fun hh => by cases hh⟩ ?_
  clear hKK KK
  try simp only [Act.put, List.setIfInBounds_toArray, List.set_cons_zero, List.set_cons_succ]
  refine wpAnyB_one (i := 20) true rfl (by kernel_rfl) (by kernel_rfl) ?_
  intro KK hKK
  go_simp
  refine hKK.out _ _ ⟨h8.lt, fun hh => by cases hh⟩ ?_
  clear hKK KK
  try simp only [Act.put, List.setIfInBounds_toArray, List.set_cons_zero, List.set_cons_succ]
  refine wpAnyB_one (i := 21) true rfl (by kernel_rfl) (by kernel_rfl) ?_
  intro KK hKK
  have y0 := h8.free (i + 1)
  have y1 : w8.cell? ⟨g, i + 1, none⟩ = some (.int .i64 vb) := by rw [h8.cell, List.getElem?_set_ne (by omega)]; exact hb'
  go_simp
  clear y0 y1
  refine hKK.out _ _ ⟨(h8.set (i + 1) (.int .i64 va)).lt, fun hh => by cases hh⟩ ?_
  clear hKK KK
  try simp only [Act.put, List.setIfInBounds_toArray, List.set_cons_zero, List.set_cons_succ]
  refine wpAnyB_done (by kernel_rfl) (NoPanic.normal ?_) _
  have hk8 : KeepC g w w8 ∧ KeepsOthers w w8 := by
    rw [← hw8]
    exact ⟨KeepC.set w i _, KeepsOthers.setCell _ _ _⟩
  have hk9 : KeepC g w (w8.setCell ⟨g, i + 1, none⟩ (.int .i64 va)).drew := (hk8.1.trans (KeepC.set w8 (i + 1) _)).drew
  go_end0
  exact ⟨⟨_, rfl⟩, (h8.set (i + 1) (.int .i64 va)).drew, hk9, hk8.2.trans ((KeepsOthers.setCell _ _ _).trans (KeepsOthers.drew _))⟩
end Go.Proofs.Ytpljaoagiaijiaa
