/-
  Contract of chapter 17: the closure of Make that puts in a pin.
-/
import Derived.Test.YtpljaoagiaijiaaCrs
import Derived.Test.YtpljaoagiaijiaaHeadB
namespace Go.Proofs.Ytpljaoagiaijiaa
open Go.RowKit
def q4C (x : Q4) : List Value := [.int .i64 x.a, .int .i64 x.b, .int .i64 x.c, .int .i64 x.d]
def qsC (ws : List Q4) : List Value := ws.flatMap q4C
/-- all but one block, and the block of a row, is as it was -/
structure KeepP (gc : Nat) (blk : Option Nat) (V W : World) : Prop where
  os : W.os = V.os
  tape : W.tape = V.tape
  output : W.output = V.output
  size : V.heap.size ≤ W.heap.size
  same : ∀ r, r < V.heap.size → r ≠ gc → some r ≠ blk → W.heap[r]? = V.heap[r]?
theorem KeepP.mk1 {gc : Nat} {blk : Option Nat} {V V2 W : World} (h : Below V.heap.size V V2) (k : V2.grownBy W blk) (i : Nat) (u : Value) : KeepP gc blk V (W.setCell ⟨gc, i, none⟩ u) := by
  have hs := (Below.refl 0 W).setCell (p := ⟨gc, i, none⟩) (Nat.zero_le _) u
  exact ⟨hs.os.trans (k.os.trans h.os), hs.tape.trans (k.tape.trans h.tape), hs.output.trans (k.output.trans h.output), Nat.le_trans (Nat.le_trans h.size k.size) hs.size,
    fun r hr hne hb => (Below.heap_setCell W _ u r hne).trans ((k.block r (Nat.lt_of_lt_of_le hr h.size) hb).trans (h.block r hr))⟩
theorem KeepP.drew {gc : Nat} {blk : Option Nat} {V W : World} (h : KeepP gc blk V W) : KeepP gc blk V W.drew := ⟨h.os, h.tape, h.output, h.size, h.same⟩
theorem qsC_app (ws : List Q4) (x : Q4) : qsC (ws ++ [x]) = qsC ws ++ q4C x := by simp [qsC]
theorem infoPn : (Try.prog.info? 72).map (fun i => (i.zero, i.size, i.bytes)) = some (some (.agg #[.int .i64 0, .int .i64 0, .int .i64 0, .int .i64 0]), 4, 32) := by kernel_rfl
set_option maxRecDepth 100000 in
set_option maxHeartbeats 2000000 in
theorem pin38 (gc gi gm gl mid np cp base : Nat) (i la lb : Int) (T X : Value) (P : Option Addr) (qs : List Q4) (cs : List Value) (W : World) (hc : Has W gc 30 [T, X, .slice P np cp]) (hi : Has W gi 3 [.int .i64 i]) (hm : Has W gm 3 [.int .i64 (mid : Int)]) (hg : Has W gl 74 cs)
    (ha : cs[mid]? = some (.int .i64 la)) (hb : cs[mid + 1]? = some (.int .i64 lb)) (hmid : mid + 1 < 48) (ho : W.ownsRow base 72 4 (.slice P np cp) np (qsC qs)) (hnp : np ≤ 1000000) (hbase : base ≤ W.heap.size) (n1 : gi ≠ gc) (n2 : gm ≠ gc) (n3 : gl ≠ gc) :
    Calls Try.prog 38 #[.pointer (some ⟨gc, 0, none⟩), .pointer (some ⟨gi, 0, none⟩), .pointer (some ⟨gm, 0, none⟩), .pointer (some ⟨gl, 0, none⟩)] W fun e w' => (∃ v, e = .returned v) ∧ ∃ P' c', Has w' gc 30 [T, X, .slice P' (np + 1) c'] ∧ w'.ownsRow base 72 4 (.slice P' (np + 1) c') (np + 1) (qsC (qs ++ [⟨i, (mid : Int), la, lb⟩])) ∧ KeepP gc (Value.slice P np cp).ownBlock W w' := by
  have HO : Hid (∀ w', Below W.heap.size W w' → w'.ownsRow base 72 4 (.slice P np cp) np (qsC qs)) := fun w' h => own_below ho h
  have y0 := hi.drew.cell 0
  have y1 := hm.drew.cell 0
  have y2 := (hg.drew.cell mid).trans ha
  have y3 := (hg.drew.cell (mid + 1)).trans hb
  have y4 := hc.drew.cell 2
  have i1 : IntKind.i64.wrap ((mid : Int) + 1) = (mid : Int) + 1 := IntWalk.i64_in _ (by omega)
  have i2 : ((mid : Int) + 1).toNat = mid + 1 := by omega
  have i3 : (0 : Int) ≤ (mid : Int) + 1 := by omega
  have i4 : (mid : Int) + 1 < 48 := by omega
  have i5 : (mid : Int) < 48 := by omega
  have i6 : mid < 48 := by omega
  go_enter Try.func38, Try.ntmps38
  go_wp2
  refine wp_region_noPanic ?_
  refine wp_region_B (fun b w' => w'.cell? ⟨gi, 0, none⟩ = some (.int .i64 i) ∧ w'.cell? ⟨gm, 0, none⟩ = some (.int .i64 (mid : Int)) ∧ w'.cell? ⟨gl, mid, none⟩ = some (.int .i64 la) ∧ w'.cell? ⟨gl, mid + 1, none⟩ = some (.int .i64 lb) ∧ (b = false → w'.cell? ⟨gc, 2, none⟩ = some (.slice P np cp))) 15 (by kernel_rfl) ?_
  have hSS : (fun b w' => w'.cell? ⟨gi, 0, none⟩ = some (.int .i64 i) ∧ w'.cell? ⟨gm, 0, none⟩ = some (.int .i64 (mid : Int)) ∧ w'.cell? ⟨gl, mid, none⟩ = some (.int .i64 la) ∧ w'.cell? ⟨gl, mid + 1, none⟩ = some (.int .i64 lb) ∧ (b = false → w'.cell? ⟨gc, 2, none⟩ = some (.slice P np cp))) false (W.drew) := ⟨y0, y1, y2, y3, fun _ => y4⟩
  refine wpAnyB_take (i := 0) (oi := _) (v := ?vv1) (fun w' => w'.cell? ⟨gi, 0, none⟩ = some (.int .i64 i) ∧ w'.cell? ⟨gm, 0, none⟩ = some (.int .i64 (mid : Int)) ∧ w'.cell? ⟨gl, mid, none⟩ = some (.int .i64 la) ∧ w'.cell? ⟨gl, mid + 1, none⟩ = some (.int .i64 lb)) rfl (by kernel_rfl) (by kernel_rfl) (by kernel_rfl) (by kernel_rfl) (by rfl) (fun _ h => ⟨h.1, h.2.1, h.2.2.1, h.2.2.2.1⟩) (.inl fun _ h => ⟨h.1, h.2.1, h.2.2.1, h.2.2.2.1⟩) (fun _ _ _ h => h) (.inl ⟨by rfl, ?hy1⟩) hSS ?_
  case hy1 =>
    intro w' hSw
    try dsimp only at hSw
    go_simp
    all_goals with_reducible rfl
  try simp only [Act.put, List.setIfInBounds_toArray, List.set_cons_zero, List.set_cons_succ]
  refine wpAnyB_take (i := 1) (oi := _) (v := ?vv2) (fun w' => w'.cell? ⟨gi, 0, none⟩ = some (.int .i64 i) ∧ w'.cell? ⟨gm, 0, none⟩ = some (.int .i64 (mid : Int)) ∧ w'.cell? ⟨gl, mid, none⟩ = some (.int .i64 la) ∧ w'.cell? ⟨gl, mid + 1, none⟩ = some (.int .i64 lb) ∧ w'.cell? ⟨gc, 2, none⟩ = some (.slice P np cp)) rfl (by kernel_rfl) (by kernel_rfl) (by kernel_rfl) (by kernel_rfl) (by rfl) (fun _ h => ⟨h.1, h.2.1, h.2.2.1, h.2.2.2.1, h.2.2.2.2 rfl⟩) (.inr (by kernel_rfl)) (fun _ _ _ h => h) (.inl ⟨by rfl, ?hy2⟩) hSS ?_
  case hy2 =>
    intro w' hSw
    try dsimp only at hSw
    go_simp
    all_goals with_reducible rfl
  try simp only [Act.put, List.setIfInBounds_toArray, List.set_cons_zero, List.set_cons_succ]
  refine wpAnyB_take (i := 2) (oi := _) (v := ?vv3) (fun w' => w'.cell? ⟨gi, 0, none⟩ = some (.int .i64 i) ∧ w'.cell? ⟨gm, 0, none⟩ = some (.int .i64 (mid : Int)) ∧ w'.cell? ⟨gl, mid, none⟩ = some (.int .i64 la) ∧ w'.cell? ⟨gl, mid + 1, none⟩ = some (.int .i64 lb)) rfl (by kernel_rfl) (by kernel_rfl) (by kernel_rfl) (by kernel_rfl) (by rfl) (fun _ h => ⟨h.1, h.2.1, h.2.2.1, h.2.2.2.1⟩) (.inl fun _ h => ⟨h.1, h.2.1, h.2.2.1, h.2.2.2.1⟩) (fun _ _ _ h => h) (.inl ⟨by rfl, ?hy3⟩) hSS ?_
  case hy3 =>
    intro w' hSw
    try dsimp only at hSw
    go_simp
    all_goals with_reducible rfl
  try simp only [Act.put, List.setIfInBounds_toArray, List.set_cons_zero, List.set_cons_succ]
  refine wpAnyB_take (i := 3) (oi := _) (v := ?vv4) (fun w' => w'.cell? ⟨gi, 0, none⟩ = some (.int .i64 i) ∧ w'.cell? ⟨gm, 0, none⟩ = some (.int .i64 (mid : Int)) ∧ w'.cell? ⟨gl, mid, none⟩ = some (.int .i64 la) ∧ w'.cell? ⟨gl, mid + 1, none⟩ = some (.int .i64 lb)) rfl (by kernel_rfl) (by kernel_rfl) (by kernel_rfl) (by kernel_rfl) (by rfl) (fun _ h => ⟨h.1, h.2.1, h.2.2.1, h.2.2.2.1⟩) (.inl fun _ h => ⟨h.1, h.2.1, h.2.2.1, h.2.2.2.1⟩) (fun _ _ _ h => h) (.inl ⟨by rfl, ?hy4⟩) hSS ?_
  case hy4 =>
    intro w' hSw
    try dsimp only at hSw
    go_simp
    all_goals with_reducible rfl
  try simp only [Act.put, List.setIfInBounds_toArray, List.set_cons_zero, List.set_cons_succ]
  refine wpAnyB_take (i := 4) (oi := _) (v := ?vv5) (fun w' => w'.cell? ⟨gi, 0, none⟩ = some (.int .i64 i) ∧ w'.cell? ⟨gm, 0, none⟩ = some (.int .i64 (mid : Int)) ∧ w'.cell? ⟨gl, mid, none⟩ = some (.int .i64 la) ∧ w'.cell? ⟨gl, mid + 1, none⟩ = some (.int .i64 lb)) rfl (by kernel_rfl) (by kernel_rfl) (by kernel_rfl) (by kernel_rfl) (by rfl) (fun _ h => ⟨h.1, h.2.1, h.2.2.1, h.2.2.2.1⟩) (.inl fun _ h => ⟨h.1, h.2.1, h.2.2.1, h.2.2.2.1⟩) (fun _ _ _ h => h) (.inl ⟨by rfl, ?hy5⟩) hSS ?_
  case hy5 =>
    intro w' hSw
    try dsimp only at hSw
    go_simp
    all_goals with_reducible rfl
  try simp only [Act.put, List.setIfInBounds_toArray, List.set_cons_zero, List.set_cons_succ]
  refine wpAnyB_take (i := 5) (oi := _) (v := ?vv6) (fun w' => w'.cell? ⟨gi, 0, none⟩ = some (.int .i64 i) ∧ w'.cell? ⟨gm, 0, none⟩ = some (.int .i64 (mid : Int)) ∧ w'.cell? ⟨gl, mid, none⟩ = some (.int .i64 la) ∧ w'.cell? ⟨gl, mid + 1, none⟩ = some (.int .i64 lb)) rfl (by kernel_rfl) (by kernel_rfl) (by kernel_rfl) (by kernel_rfl) (by rfl) (fun _ h => ⟨h.1, h.2.1, h.2.2.1, h.2.2.2.1⟩) (.inl fun _ h => ⟨h.1, h.2.1, h.2.2.1, h.2.2.2.1⟩) (fun _ _ _ h => h) (.inl ⟨by rfl, ?hy6⟩) hSS ?_
  case hy6 =>
    intro w' hSw
    try dsimp only at hSw
    go_simp
    all_goals with_reducible rfl
  try simp only [Act.put, List.setIfInBounds_toArray, List.set_cons_zero, List.set_cons_succ]
  refine wpAnyB_take (i := 6) (oi := _) (v := ?vv7) (fun w' => w'.cell? ⟨gi, 0, none⟩ = some (.int .i64 i) ∧ w'.cell? ⟨gm, 0, none⟩ = some (.int .i64 (mid : Int)) ∧ w'.cell? ⟨gl, mid, none⟩ = some (.int .i64 la) ∧ w'.cell? ⟨gl, mid + 1, none⟩ = some (.int .i64 lb)) rfl (by kernel_rfl) (by kernel_rfl) (by kernel_rfl) (by kernel_rfl) (by rfl) (fun _ h => ⟨h.1, h.2.1, h.2.2.1, h.2.2.2.1⟩) (.inl fun _ h => ⟨h.1, h.2.1, h.2.2.1, h.2.2.2.1⟩) (fun _ _ _ h => h) (.inl ⟨by rfl, ?hy7⟩) hSS ?_
  case hy7 =>
    intro w' hSw
    try dsimp only at hSw
    go_simp
    all_goals with_reducible rfl
  try simp only [Act.put, List.setIfInBounds_toArray, List.set_cons_zero, List.set_cons_succ]
  refine wpAnyB_take (i := 7) (oi := _) (v := ?vv8) (fun w' => w'.cell? ⟨gi, 0, none⟩ = some (.int .i64 i) ∧ w'.cell? ⟨gm, 0, none⟩ = some (.int .i64 (mid : Int)) ∧ w'.cell? ⟨gl, mid, none⟩ = some (.int .i64 la) ∧ w'.cell? ⟨gl, mid + 1, none⟩ = some (.int .i64 lb)) rfl (by kernel_rfl) (by kernel_rfl) (by kernel_rfl) (by kernel_rfl) (by rfl) (fun _ h => ⟨h.1, h.2.1, h.2.2.1, h.2.2.2.1⟩) (.inl fun _ h => ⟨h.1, h.2.1, h.2.2.1, h.2.2.2.1⟩) (fun _ _ _ h => h) (.inl ⟨by rfl, ?hy8⟩) hSS ?_
  case hy8 =>
    intro w' hSw
    try dsimp only at hSw
    go_simp
    all_goals with_reducible rfl
  try simp only [Act.put, List.setIfInBounds_toArray, List.set_cons_zero, List.set_cons_succ]
  refine wpAnyB_take (i := 8) (oi := _) (v := ?vv9) (fun w' => w'.cell? ⟨gi, 0, none⟩ = some (.int .i64 i) ∧ w'.cell? ⟨gm, 0, none⟩ = some (.int .i64 (mid : Int)) ∧ w'.cell? ⟨gl, mid, none⟩ = some (.int .i64 la) ∧ w'.cell? ⟨gl, mid + 1, none⟩ = some (.int .i64 lb)) rfl (by kernel_rfl) (by kernel_rfl) (by kernel_rfl) (by kernel_rfl) (by rfl) (fun _ h => ⟨h.1, h.2.1, h.2.2.1, h.2.2.2.1⟩) (.inl fun _ h => ⟨h.1, h.2.1, h.2.2.1, h.2.2.2.1⟩) (fun _ _ _ h => h) (.inl ⟨by rfl, ?hy9⟩) hSS ?_
  case hy9 =>
    intro w' hSw
    try dsimp only at hSw
    go_simp
    all_goals with_reducible rfl
  try simp only [Act.put, List.setIfInBounds_toArray, List.set_cons_zero, List.set_cons_succ]
  refine wpAnyB_take (i := 9) (oi := _) (v := ?vv10) (fun w' => w'.cell? ⟨gi, 0, none⟩ = some (.int .i64 i) ∧ w'.cell? ⟨gm, 0, none⟩ = some (.int .i64 (mid : Int)) ∧ w'.cell? ⟨gl, mid, none⟩ = some (.int .i64 la) ∧ w'.cell? ⟨gl, mid + 1, none⟩ = some (.int .i64 lb)) rfl (by kernel_rfl) (by kernel_rfl) (by kernel_rfl) (by kernel_rfl) (by rfl) (fun _ h => ⟨h.1, h.2.1, h.2.2.1, h.2.2.2.1⟩) (.inl fun _ h => ⟨h.1, h.2.1, h.2.2.1, h.2.2.2.1⟩) (fun _ _ _ h => h) (.inl ⟨by rfl, ?hy10⟩) hSS ?_
  case hy10 =>
    intro w' hSw
    try dsimp only at hSw
    go_simp
    all_goals with_reducible rfl
  try simp only [Act.put, List.setIfInBounds_toArray, List.set_cons_zero, List.set_cons_succ]
  refine wpAnyB_take (i := 10) (oi := _) (v := ?vv11) (fun w' => w'.cell? ⟨gi, 0, none⟩ = some (.int .i64 i) ∧ w'.cell? ⟨gm, 0, none⟩ = some (.int .i64 (mid : Int)) ∧ w'.cell? ⟨gl, mid, none⟩ = some (.int .i64 la) ∧ w'.cell? ⟨gl, mid + 1, none⟩ = some (.int .i64 lb)) rfl (by kernel_rfl) (by kernel_rfl) (by kernel_rfl) (by kernel_rfl) (by rfl) (fun _ h => ⟨h.1, h.2.1, h.2.2.1, h.2.2.2.1⟩) (.inl fun _ h => ⟨h.1, h.2.1, h.2.2.1, h.2.2.2.1⟩) (fun _ _ _ h => h) (.inl ⟨by rfl, ?hy11⟩) hSS ?_
  case hy11 =>
    intro w' hSw
    try dsimp only at hSw
    go_simp
    all_goals with_reducible rfl
  try simp only [Act.put, List.setIfInBounds_toArray, List.set_cons_zero, List.set_cons_succ]
  refine wpAnyB_take (i := 11) (oi := _) (v := ?vv12) (fun w' => w'.cell? ⟨gi, 0, none⟩ = some (.int .i64 i) ∧ w'.cell? ⟨gm, 0, none⟩ = some (.int .i64 (mid : Int)) ∧ w'.cell? ⟨gl, mid, none⟩ = some (.int .i64 la) ∧ w'.cell? ⟨gl, mid + 1, none⟩ = some (.int .i64 lb)) rfl (by kernel_rfl) (by kernel_rfl) (by kernel_rfl) (by kernel_rfl) (by rfl) (fun _ h => ⟨h.1, h.2.1, h.2.2.1, h.2.2.2.1⟩) (.inl fun _ h => ⟨h.1, h.2.1, h.2.2.1, h.2.2.2.1⟩) (fun _ _ _ h => h) (.inl ⟨by rfl, ?hy12⟩) hSS ?_
  case hy12 =>
    intro w' hSw
    try dsimp only at hSw
    go_simp
    all_goals with_reducible rfl
  try simp only [Act.put, List.setIfInBounds_toArray, List.set_cons_zero, List.set_cons_succ]
  refine wpAnyB_one (i := 12) false rfl (by kernel_rfl) (by kernel_rfl) ?_
  intro KK hKK
  go_simp
  have hc2 := (hc.alloc (.cells #[.int .i64 i, .int .i64 (mid : Int), .int .i64 la, .int .i64 lb] 72)).drew
  have hi2 := (hi.alloc (.cells #[.int .i64 i, .int .i64 (mid : Int), .int .i64 la, .int .i64 lb] 72)).drew
  have hm2 := (hm.alloc (.cells #[.int .i64 i, .int .i64 (mid : Int), .int .i64 la, .int .i64 lb] 72)).drew
  have hg2 := (hg.alloc (.cells #[.int .i64 i, .int .i64 (mid : Int), .int .i64 la, .int .i64 lb] 72)).drew
  have ho2 := HO.out (W.alloc (.cells #[.int .i64 i, .int .i64 (mid : Int), .int .i64 la, .int .i64 lb] 72)).drew ((Below.refl _ W).alloc (Nat.le_refl _) (.cells #[.int .i64 i, .int .i64 (mid : Int), .int .i64 la, .int .i64 lb] 72)).drew
  have hn2 : ∀ p u, ([.int .i64 i, .int .i64 (mid : Int), .int .i64 la, .int .i64 lb] : List Value)[p]? = some u → (W.alloc (.cells #[.int .i64 i, .int .i64 (mid : Int), .int .i64 la, .int .i64 lb] 72)).drew.cell? ⟨W.heap.size, p, none⟩ = some u := fun p u hu => ((Has.new (w := W) (t := 72) (cs := [.int .i64 i, .int .i64 (mid : Int), .int .i64 la, .int .i64 lb]) rfl).drew.cell p).trans hu
  have z2 : W.heap.size ≤ (W.alloc (.cells #[.int .i64 i, .int .i64 (mid : Int), .int .i64 la, .int .i64 lb] 72)).drew.heap.size := by show _ ≤ (W.alloc (.cells #[.int .i64 i, .int .i64 (mid : Int), .int .i64 la, .int .i64 lb] 72)).heap.size; simp
  have B2 := ((Below.refl _ W).alloc (Nat.le_refl _) (.cells #[.int .i64 i, .int .i64 (mid : Int), .int .i64 la, .int .i64 lb] 72)).drew
  generalize (W.alloc (.cells #[.int .i64 i, .int .i64 (mid : Int), .int .i64 la, .int .i64 lb] 72)).drew = W2 at *
  refine hKK.out _ _ ⟨hi2.cell 0, hm2.cell 0, (hg2.cell mid).trans ha, (hg2.cell (mid + 1)).trans hb, fun _ => hc2.cell 2⟩ ?_
  clear hKK KK
  try simp only [Act.put, List.setIfInBounds_toArray, List.set_cons_zero, List.set_cons_succ]
  refine wpAnyB_one (i := 13) false rfl (by kernel_rfl) (by kernel_rfl) ?_
  intro KK hKK
  refine step_appN rfl (.tmp 5) (.tmp 16) 28 rfl base 72 (.agg #[.int .i64 0, .int .i64 0, .int .i64 0, .int .i64 0]) 4 32 Try.underlying28 infoPn rfl (by omega) (by omega) (.slice P np cp) np (qsC qs) rfl ho2 ⟨W.heap.size, 0, none⟩ 1 1 [.int .i64 i, .int .i64 (mid : Int), .int .i64 la, .int .i64 lb] rfl rfl (fun j u hu => by rw [Addr.add_lit, Nat.zero_add]; exact hn2 j u hu) (by simp [Value.oneCell']) (by omega) (by omega) ?_
  intro v' w4 hown4 hgrow4 hnil4 hor4
  obtain ⟨A4, c4, rfl⟩ := own_form hown4
  have hc4 := hc2.same (hgrow4.block _ hc2.lt (fun e => hc2.ne_own ho2 (by decide) e.symm))
  have hi4 := hi2.same (hgrow4.block _ hi2.lt (fun e => hi2.ne_own ho2 (by decide) e.symm))
  have hm4 := hm2.same (hgrow4.block _ hm2.lt (fun e => hm2.ne_own ho2 (by decide) e.symm))
  have hg4 := hg2.same (hgrow4.block _ hg2.lt (fun e => hg2.ne_own ho2 (by decide) e.symm))
  refine hKK.out _ _ ⟨hi4.cell 0, hm4.cell 0, (hg4.cell mid).trans ha, (hg4.cell (mid + 1)).trans hb, fun _ => hc4.cell 2⟩ ?_
  clear hKK KK
  try simp only [Act.put, List.setIfInBounds_toArray, List.set_cons_zero, List.set_cons_succ]
  refine wpAnyB_take (i := 14) (oi := _) (v := ?vv13) (fun w' => w'.cell? ⟨gi, 0, none⟩ = some (.int .i64 i) ∧ w'.cell? ⟨gm, 0, none⟩ = some (.int .i64 (mid : Int)) ∧ w'.cell? ⟨gl, mid, none⟩ = some (.int .i64 la) ∧ w'.cell? ⟨gl, mid + 1, none⟩ = some (.int .i64 lb)) rfl (by kernel_rfl) (by kernel_rfl) (by kernel_rfl) (by kernel_rfl) (by rfl) (fun _ h => ⟨h.1, h.2.1, h.2.2.1, h.2.2.2.1⟩) (.inl fun _ h => ⟨h.1, h.2.1, h.2.2.1, h.2.2.2.1⟩) (fun _ _ _ h => h) (.inl ⟨by rfl, ?hy13⟩) ⟨hi4.cell 0, hm4.cell 0, (hg4.cell mid).trans ha, (hg4.cell (mid + 1)).trans hb, fun _ => hc4.cell 2⟩ ?_
  case hy13 =>
    intro w' hSw
    try dsimp only at hSw
    go_simp
    all_goals with_reducible rfl
  try simp only [Act.put, List.setIfInBounds_toArray, List.set_cons_zero, List.set_cons_succ]
  refine wpAnyB_one (i := 15) true rfl (by kernel_rfl) (by kernel_rfl) ?_
  intro KK hKK
  have f4 := hc4.free 2
  have q4 := hc4.lt
  have s4 : w4.cell? ⟨gc, 2, none⟩ = some (.slice P np cp) := hc4.cell 2
  go_simp
  refine hKK.out _ _ ⟨(hi4.far (b := gc) (by omega) 2 (.slice A4 (np + 1) c4)).cell 0, (hm4.far (b := gc) (by omega) 2 (.slice A4 (np + 1) c4)).cell 0, ((hg4.far (b := gc) (by omega) 2 (.slice A4 (np + 1) c4)).cell mid).trans ha, ((hg4.far (b := gc) (by omega) 2 (.slice A4 (np + 1) c4)).cell (mid + 1)).trans hb, fun hh => by cases hh⟩ ?_
  clear hKK KK
  try simp only [Act.put, List.setIfInBounds_toArray, List.set_cons_zero, List.set_cons_succ]
  refine wpAnyB_done (by kernel_rfl) (NoPanic.normal ?_) _
  have hne := hc4.ne_own hown4 (by decide)
  have hO5 := (But.set gc w4 2 (.slice A4 (np + 1) c4)).own hown4 hne
  have hK5 := KeepP.mk1 (gc := gc) B2 hgrow4 2 (.slice A4 (np + 1) c4)
  have hC5 := hc4.set 2 (.slice A4 (np + 1) c4)
  go_end0
  refine ⟨⟨_, rfl⟩, A4, c4, ?_, ?_, ?_⟩
  · first | exact hC5 | exact hC5.drew
  · rw [qsC_app]; first | exact hO5 | exact own_below hO5 (Below.drew (Below.refl _ _))
  · first | exact hK5 | exact hK5.drew
end Go.Proofs.Ytpljaoagiaijiaa
