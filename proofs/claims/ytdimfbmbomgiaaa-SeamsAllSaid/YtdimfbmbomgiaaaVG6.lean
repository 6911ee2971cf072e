/-
  Contract of chapter 17: the closure of Make that puts in a pin.
-/
import Derived.Test.YtdimfbmbomgiaaaVG2
import Derived.Test.YtdimfbmbomgiaaaVG3
import Derived.Test.YtdimfbmbomgiaaaVG5
import Derived.Deep.Cut
namespace Go.Proofs.Ytdimfbmbomgiaaa
open Go.RowKit
def q4C (x : Q4) : List Value := [.int .i64 x.a, .int .i64 x.b, .int .i64 x.c, .int .i64 x.d]
def qsC (ws : List Q4) : List Value := ws.flatMap q4C
/-- all but one block, and the block of a row, is as it was -/
structure KeepP (gc : Nat) (blk : Option Nat) (V W : World) : Prop where
  os : W.os = V.os
  tape : W.tape = V.tape
  output : W.output = V.output
  size : V.heap.size ≤ W.heap.size
  same : ∀ r, r < V.heap.size → r ≠ gc → some r ≠ blk → W.heap[r]? = V.heap[r]?
theorem KeepP.mk1 {gc : Nat} {blk : Option Nat} {V V2 W : World} (h : Below V.heap.size V V2) (k : V2.grownBy W blk) (i : Nat) (u : Value) : KeepP gc blk V (W.setCell ⟨gc, i, none⟩ u) := by
  have hs := (Below.refl 0 W).setCell (p := ⟨gc, i, none⟩) (Nat.zero_le _) u
  exact ⟨hs.os.trans (k.os.trans h.os), hs.tape.trans (k.tape.trans h.tape), hs.output.trans (k.output.trans h.output), Nat.le_trans (Nat.le_trans h.size k.size) hs.size,
    fun r hr hne hb => (Below.heap_setCell W _ u r hne).trans ((k.block r (Nat.lt_of_lt_of_le hr h.size) hb).trans (h.block r hr))⟩
theorem KeepP.drew {gc : Nat} {blk : Option Nat} {V W : World} (h : KeepP gc blk V W) : KeepP gc blk V W.drew := ⟨h.os, h.tape, h.output, h.size, h.same⟩
theorem qsC_app (ws : List Q4) (x : Q4) : qsC (ws ++ [x]) = qsC ws ++ q4C x := by simp [qsC]
theorem infoPn : (Try.prog.info? 80).map (fun i => (i.zero, i.size, i.bytes)) = some (some (.agg #[.int .i64 0, .int .i64 0, .int .i64 0, .int .i64 0]), 4, 32) := by kernel_rfl
set_option maxRecDepth 100000 in
set_option maxHeartbeats 2000000 in
theorem pin38 (gc gi gm gl mid np cp base : Nat) (i la lb : Int) (T X : Value) (P : Option Addr) (qs : List Q4) (cs : List Value) (W : World) (hc : Has W gc 49 [T, X, .slice P np cp]) (hi : Has W gi 3 [.int .i64 i]) (hm : Has W gm 3 [.int .i64 (mid : Int)]) (hg : Has W gl 109 cs)
    (ha : cs[mid]? = some (.int .i64 la)) (hb : cs[mid + 1]? = some (.int .i64 lb)) (hmid : mid + 1 < 48) (ho : W.ownsRow base 80 4 (.slice P np cp) np (qsC qs)) (hnp : np ≤ 1000000) (hbase : base ≤ W.heap.size) (n1 : gi ≠ gc) (n2 : gm ≠ gc) (n3 : gl ≠ gc) :
    Calls Try.prog 63 #[.pointer (some ⟨gc, 0, none⟩), .pointer (some ⟨gi, 0, none⟩), .pointer (some ⟨gm, 0, none⟩), .pointer (some ⟨gl, 0, none⟩)] W fun e w' => (∃ v, e = .returned v) ∧ ∃ P' c', Has w' gc 49 [T, X, .slice P' (np + 1) c'] ∧ w'.ownsRow base 80 4 (.slice P' (np + 1) c') (np + 1) (qsC (qs ++ [⟨i, (mid : Int), la, lb⟩])) ∧ KeepP gc (Value.slice P np cp).ownBlock W w' := by
  have HO : Hid (∀ w', Below W.heap.size W w' → w'.ownsRow base 80 4 (.slice P np cp) np (qsC qs)) := fun w' h => own_below ho h
  have y0 := hi.drew.cell 0
  have y1 := hm.drew.cell 0
  have y2 := (hg.drew.cell mid).trans ha
  have y3 := (hg.drew.cell (mid + 1)).trans hb
  have y4 := hc.drew.cell 2
  have i1 : IntKind.i64.wrap ((mid : Int) + 1) = (mid : Int) + 1 := IntWalk.i64_in _ (by omega)
  have i2 : ((mid : Int) + 1).toNat = mid + 1 := by omega
  have i3 : (0 : Int) ≤ (mid : Int) + 1 := by omega
  have i4 : (mid : Int) + 1 < 48 := by omega
  have i5 : (mid : Int) < 48 := by omega
  have i6 : mid < 48 := by omega
  go_enter Try.func63, Try.ntmps63
  go_wp2
  refine wp_region_noPanic ?_
  refine wp_region_B (fun b w' => w'.cell? ⟨gi, 0, none⟩ = some (.int .i64 i) ∧ w'.cell? ⟨gm, 0, none⟩ = some (.int .i64 (mid : Int)) ∧ w'.cell? ⟨gl, mid, none⟩ = some (.int .i64 la) ∧ w'.cell? ⟨gl, mid + 1, none⟩ = some (.int .i64 lb) ∧ (b = false → w'.cell? ⟨gc, 2, none⟩ = some (.slice P np cp))) 15 (by kernel_rfl) ?_
  have hSS : (fun b w' => w'.cell? ⟨gi, 0, none⟩ = some (.int .i64 i) ∧ w'.cell? ⟨gm, 0, none⟩ = some (.int .i64 (mid : Int)) ∧ w'.cell? ⟨gl, mid, none⟩ = some (.int .i64 la) ∧ w'.cell? ⟨gl, mid + 1, none⟩ = some (.int .i64 lb) ∧ (b = false → w'.cell? ⟨gc, 2, none⟩ = some (.slice P np cp))) false (W.drew) := ⟨y0, y1, y2, y3, fun _ => y4⟩
  refine wpAnyB_take (i := 0) (oi := _) (v := ?vv1) (fun w' => w'.cell? ⟨gi, 0, none⟩ = some (.int .i64 i) ∧ w'.cell? ⟨gm, 0, none⟩ = some (.int .i64 (mid : Int)) ∧ w'.cell? ⟨gl, mid, none⟩ = some (.int .i64 la) ∧ w'.cell? ⟨gl, mid + 1, none⟩ = some (.int .i64 lb)) rfl (by kernel_rfl) (by kernel_rfl) (by kernel_rfl) (by kernel_rfl) (by rfl) (fun _ h => ⟨h.1, h.2.1, h.2.2.1, h.2.2.2.1⟩) (.inl fun _ h => ⟨h.1, h.2.1, h.2.2.1, h.2.2.2.1⟩) (fun _ _ _ h => h) (.inl ⟨by rfl, ?hy1⟩) hSS ?_
  case hy1 =>
    intro w' hSw
    try dsimp only at hSw
    go_simp
    all_goals with_reducible rfl
  try simp only [Act.put, List.setIfInBounds_toArray]
  refine wpAnyB_take (i := 1) (oi := _) (v := ?vv2) (fun w' => w'.cell? ⟨gi, 0, none⟩ = some (.int .i64 i) ∧ w'.cell? ⟨gm, 0, none⟩ = some (.int .i64 (mid : Int)) ∧ w'.cell? ⟨gl, mid, none⟩ = some (.int .i64 la) ∧ w'.cell? ⟨gl, mid + 1, none⟩ = some (.int .i64 lb) ∧ w'.cell? ⟨gc, 2, none⟩ = some (.slice P np cp)) rfl (by kernel_rfl) (by kernel_rfl) (by kernel_rfl) (by kernel_rfl) (by rfl) (fun _ h => ⟨h.1, h.2.1, h.2.2.1, h.2.2.2.1, h.2.2.2.2 rfl⟩) (.inr (by kernel_rfl)) (fun _ _ _ h => h) (.inl ⟨by rfl, ?hy2⟩) hSS ?_
  case hy2 =>
    intro w' hSw
    try dsimp only at hSw
    go_simp
    all_goals with_reducible rfl
  try simp only [Act.put]
  refine wpAnyB_take (i := 2) (oi := _) (v := ?vv3) (fun w' => w'.cell? ⟨gi, 0, none⟩ = some (.int .i64 i) ∧ w'.cell? ⟨gm, 0, none⟩ = some (.int .i64 (mid : Int)) ∧ w'.cell? ⟨gl, mid, none⟩ = some (.int .i64 la) ∧ w'.cell? ⟨gl, mid + 1, none⟩ = some (.int .i64 lb)) rfl (by kernel_rfl) (by kernel_rfl) (by kernel_rfl) (by kernel_rfl) (by rfl) (fun _ h => ⟨h.1, h.2.1, h.2.2.1, h.2.2.2.1⟩) (.inl fun _ h => ⟨h.1, h.2.1, h.2.2.1, h.2.2.2.1⟩) (fun _ _ _ h => h) (.inl ⟨by rfl, ?hy3⟩) hSS ?_
  case hy3 =>
    intro w' hSw
    try dsimp only at hSw
    go_simp
    all_goals with_reducible rfl
  try simp only [Act.put]
  refine wpAnyB_take (i := 3) (oi := _) (v := ?vv4) (fun w' => w'.cell? ⟨gi, 0, none⟩ = some (.int .i64 i) ∧ w'.cell? ⟨gm, 0, none⟩ = some (.int .i64 (mid : Int)) ∧ w'.cell? ⟨gl, mid, none⟩ = some (.int .i64 la) ∧ w'.cell? ⟨gl, mid + 1, none⟩ = some (.int .i64 lb)) rfl (by kernel_rfl) (by kernel_rfl) (by kernel_rfl) (by kernel_rfl) (by rfl) (fun _ h => ⟨h.1, h.2.1, h.2.2.1, h.2.2.2.1⟩) (.inl fun _ h => ⟨h.1, h.2.1, h.2.2.1, h.2.2.2.1⟩) (fun _ _ _ h => h) (.inl ⟨by rfl, ?hy4⟩) hSS ?_
  case hy4 =>
    intro w' hSw
    try dsimp only at hSw
    go_simp
    all_goals with_reducible rfl
  try simp only [Act.put]
  refine wpAnyB_take (i := 4) (oi := _) (v := ?vv5) (fun w' => w'.cell? ⟨gi, 0, none⟩ = some (.int .i64 i) ∧ w'.cell? ⟨gm, 0, none⟩ = some (.int .i64 (mid : Int)) ∧ w'.cell? ⟨gl, mid, none⟩ = some (.int .i64 la) ∧ w'.cell? ⟨gl, mid + 1, none⟩ = some (.int .i64 lb)) rfl (by kernel_rfl) (by kernel_rfl) (by kernel_rfl) (by kernel_rfl) (by rfl) (fun _ h => ⟨h.1, h.2.1, h.2.2.1, h.2.2.2.1⟩) (.inl fun _ h => ⟨h.1, h.2.1, h.2.2.1, h.2.2.2.1⟩) (fun _ _ _ h => h) (.inl ⟨by rfl, ?hy5⟩) hSS ?_
  case hy5 =>
    intro w' hSw
    try dsimp only at hSw
    go_simp
    all_goals with_reducible rfl
  try simp only [Act.put]
  refine wpAnyB_take (i := 5) (oi := _) (v := ?vv6) (fun w' => w'.cell? ⟨gi, 0, none⟩ = some (.int .i64 i) ∧ w'.cell? ⟨gm, 0, none⟩ = some (.int .i64 (mid : Int)) ∧ w'.cell? ⟨gl, mid, none⟩ = some (.int .i64 la) ∧ w'.cell? ⟨gl, mid + 1, none⟩ = some (.int .i64 lb)) rfl (by kernel_rfl) (by kernel_rfl) (by kernel_rfl) (by kernel_rfl) (by rfl) (fun _ h => ⟨h.1, h.2.1, h.2.2.1, h.2.2.2.1⟩) (.inl fun _ h => ⟨h.1, h.2.1, h.2.2.1, h.2.2.2.1⟩) (fun _ _ _ h => h) (.inl ⟨by rfl, ?hy6⟩) hSS ?_
  case hy6 =>
    intro w' hSw
    try dsimp only at hSw
    go_simp
    all_goals with_reducible rfl
  try simp only [Act.put]
  refine wpAnyB_take (i := 6) (oi := _) (v := ?vv7) (fun w' => w'.cell? ⟨gi, 0, none⟩ = some (.int .i64 i) ∧ w'.cell? ⟨gm, 0, none⟩ = some (.int .i64 (mid : Int)) ∧ w'.cell? ⟨gl, mid, none⟩ = some (.int .i64 la) ∧ w'.cell? ⟨gl, mid + 1, none⟩ = some (.int .i64 lb)) rfl (by kernel_rfl) (by kernel_rfl) (by kernel_rfl) (by kernel_rfl) (by rfl) (fun _ h => ⟨h.1, h.2.1, h.2.2.1, h.2.2.2.1⟩) (.inl fun _ h => ⟨h.1, h.2.1, h.2.2.1, h.2.2.2.1⟩) (fun _ _ _ h => h) (.inl ⟨by rfl, ?hy7⟩) hSS ?_
  case hy7 =>
    intro w' hSw
    try dsimp only at hSw
    go_simp
    all_goals with_reducible rfl
  try simp only [Act.put]
  refine wpAnyB_take (i := 7) (oi := _) (v := ?vv8) (fun w' => w'.cell? ⟨gi, 0, none⟩ = some (.int .i64 i) ∧ w'.cell? ⟨gm, 0, none⟩ = some (.int .i64 (mid : Int)) ∧ w'.cell? ⟨gl, mid, none⟩ = some (.int .i64 la) ∧ w'.cell? ⟨gl, mid + 1, none⟩ = some (.int .i64 lb)) rfl (by kernel_rfl) (by kernel_rfl) (by kernel_rfl) (by kernel_rfl) (by rfl) (fun _ h => ⟨h.1, h.2.1, h.2.2.1, h.2.2.2.1⟩) (.inl fun _ h => ⟨h.1, h.2.1, h.2.2.1, h.2.2.2.1⟩) (fun _ _ _ h => h) (.inl ⟨by rfl, ?hy8⟩) hSS ?_
  case hy8 =>
    intro w' hSw
    try dsimp only at hSw
    go_simp
    all_goals with_reducible rfl
  try simp only [Act.put]
  refine wpAnyB_take (i := 8) (oi := _) (v := ?vv9) (fun w' => w'.cell? ⟨gi, 0, none⟩ = some (.int .i64 i) ∧ w'.cell? ⟨gm, 0, none⟩ = some (.int .i64 (mid : Int)) ∧ w'.cell? ⟨gl, mid, none⟩ = some (.int .i64 la) ∧ w'.cell? ⟨gl, mid + 1, none⟩ = some (.int .i64 lb)) rfl (by kernel_rfl) (by kernel_rfl) (by kernel_rfl) (by kernel_rfl) (by rfl) (fun _ h => ⟨h.1, h.2.1, h.2.2.1, h.2.2.2.1⟩) (.inl fun _ h => ⟨h.1, h.2.1, h.2.2.1, h.2.2.2.1⟩) (fun _ _ _ h => h) (.inl ⟨by rfl, ?hy9⟩) hSS ?_
  case hy9 =>
    intro w' hSw
    try dsimp only at hSw
    go_simp
    all_goals with_reducible rfl
  try simp only [Act.put]
  refine wpAnyB_take (i := 9) (oi := _) (v := ?vv10) (fun w' => w'.cell? ⟨gi, 0, none⟩ = some (.int .i64 i) ∧ w'.cell? ⟨gm, 0, none⟩ = some (.int .i64 (mid : Int)) ∧ w'.cell? ⟨gl, mid, none⟩ = some (.int .i64 la) ∧ w'.cell? ⟨gl, mid + 1, none⟩ = some (.int .i64 lb)) rfl (by kernel_rfl) (by kernel_rfl) (by kernel_rfl) (by kernel_rfl) (by rfl) (fun _ h => ⟨h.1, h.2.1, h.2.2.1, h.2.2.2.1⟩) (.inl fun _ h => ⟨h.1, h.2.1, h.2.2.1, h.2.2.2.1⟩) (fun _ _ _ h => h) (.inl ⟨by rfl, ?hy10⟩) hSS ?_
  case hy10 =>
    intro w' hSw
    try dsimp only at hSw
    go_simp
    all_goals with_reducible rfl
  try simp only [Act.put]
  refine wpAnyB_take (i := 10) (oi := _) (v := ?vv11) (fun w' => w'.cell? ⟨gi, 0, none⟩ = some (.int .i64 i) ∧ w'.cell? ⟨gm, 0, none⟩ = some (.int .i64 (mid : Int)) ∧ w'.cell? ⟨gl, mid, none⟩ = some (.int .i64 la) ∧ w'.cell? ⟨gl, mid + 1, none⟩ = some (.int .i64 lb)) rfl (by kernel_rfl) (by kernel_rfl) (by kernel_rfl) (by kernel_rfl) (by rfl) (fun _ h => ⟨h.1, h.2.1, h.2.2.1, h.2.2.2.1⟩) (.inl fun _ h => ⟨h.1, h.2.1, h.2.2.1, h.2.2.2.1⟩) (fun _ _ _ h => h) (.inl ⟨by rfl, ?hy11⟩) hSS ?_
  case hy11 =>
    intro w' hSw
    try dsimp only at hSw
    go_simp
    all_goals with_reducible rfl
  try simp only [Act.put]
  refine wpAnyB_take (i := 11) (oi := _) (v := ?vv12) (fun w' => w'.cell? ⟨gi, 0, none⟩ = some (.int .i64 i) ∧ w'.cell? ⟨gm, 0, none⟩ = some (.int .i64 (mid : Int)) ∧ w'.cell? ⟨gl, mid, none⟩ = some (.int .i64 la) ∧ w'.cell? ⟨gl, mid + 1, none⟩ = some (.int .i64 lb)) rfl (by kernel_rfl) (by kernel_rfl) (by kernel_rfl) (by kernel_rfl) (by rfl) (fun _ h => ⟨h.1, h.2.1, h.2.2.1, h.2.2.2.1⟩) (.inl fun _ h => ⟨h.1, h.2.1, h.2.2.1, h.2.2.2.1⟩) (fun _ _ _ h => h) (.inl ⟨by rfl, ?hy12⟩) hSS ?_
  case hy12 =>
    intro w' hSw
    try dsimp only at hSw
    go_simp
    all_goals with_reducible rfl
  try simp only [Act.put]
  refine wpAnyB_one (i := 12) false rfl (by kernel_rfl) (by kernel_rfl) ?_
  intro KK hKK
  go_simp
  have hc2 := (hc.alloc (.cells #[.int .i64 i, .int .i64 (mid : Int), .int .i64 la, .int .i64 lb] 80)).drew
  have hi2 := (hi.alloc (.cells #[.int .i64 i, .int .i64 (mid : Int), .int .i64 la, .int .i64 lb] 80)).drew
  have hm2 := (hm.alloc (.cells #[.int .i64 i, .int .i64 (mid : Int), .int .i64 la, .int .i64 lb] 80)).drew
  have hg2 := (hg.alloc (.cells #[.int .i64 i, .int .i64 (mid : Int), .int .i64 la, .int .i64 lb] 80)).drew
  have ho2 := HO.out (W.alloc (.cells #[.int .i64 i, .int .i64 (mid : Int), .int .i64 la, .int .i64 lb] 80)).drew ((Below.refl _ W).alloc (Nat.le_refl _) (.cells #[.int .i64 i, .int .i64 (mid : Int), .int .i64 la, .int .i64 lb] 80)).drew
  have hn2 : ∀ p u, ([.int .i64 i, .int .i64 (mid : Int), .int .i64 la, .int .i64 lb] : List Value)[p]? = some u → (W.alloc (.cells #[.int .i64 i, .int .i64 (mid : Int), .int .i64 la, .int .i64 lb] 80)).drew.cell? ⟨W.heap.size, p, none⟩ = some u := fun p u hu => ((Has.new (w := W) (t := 80) (cs := [.int .i64 i, .int .i64 (mid : Int), .int .i64 la, .int .i64 lb]) rfl).drew.cell p).trans hu
  have z2 : W.heap.size ≤ (W.alloc (.cells #[.int .i64 i, .int .i64 (mid : Int), .int .i64 la, .int .i64 lb] 80)).drew.heap.size := by show _ ≤ (W.alloc (.cells #[.int .i64 i, .int .i64 (mid : Int), .int .i64 la, .int .i64 lb] 80)).heap.size; simp
  have B2 := ((Below.refl _ W).alloc (Nat.le_refl _) (.cells #[.int .i64 i, .int .i64 (mid : Int), .int .i64 la, .int .i64 lb] 80)).drew
  generalize (W.alloc (.cells #[.int .i64 i, .int .i64 (mid : Int), .int .i64 la, .int .i64 lb] 80)).drew = W2 at *
  refine hKK.out _ _ ⟨hi2.cell 0, hm2.cell 0, (hg2.cell mid).trans ha, (hg2.cell (mid + 1)).trans hb, fun _ => hc2.cell 2⟩ ?_
  clear hKK KK
  try simp only [Act.put, List.setIfInBounds_toArray, List.set_cons_zero, List.set_cons_succ]
  refine wpAnyB_one (i := 13) false rfl (by kernel_rfl) (by kernel_rfl) ?_
  intro KK hKK
  refine step_appN rfl (.tmp 5) (.tmp 16) 47 rfl base 80 (.agg #[.int .i64 0, .int .i64 0, .int .i64 0, .int .i64 0]) 4 32 Try.underlying47 infoPn rfl (by omega) (by omega) (.slice P np cp) np (qsC qs) rfl ho2 ⟨W.heap.size, 0, none⟩ 1 1 [.int .i64 i, .int .i64 (mid : Int), .int .i64 la, .int .i64 lb] rfl rfl (fun j u hu => by rw [Addr.add_lit, Nat.zero_add]; exact hn2 j u hu) (by simp [Value.oneCell']) (by omega) (by omega) ?_
  intro v' w4 hown4 hgrow4 hnil4 hor4
  obtain ⟨A4, c4, rfl⟩ := own_form hown4
  have hc4 := hc2.same (hgrow4.block _ hc2.lt (fun e => hc2.ne_own ho2 (by decide) e.symm))
  have hi4 := hi2.same (hgrow4.block _ hi2.lt (fun e => hi2.ne_own ho2 (by decide) e.symm))
  have hm4 := hm2.same (hgrow4.block _ hm2.lt (fun e => hm2.ne_own ho2 (by decide) e.symm))
  have hg4 := hg2.same (hgrow4.block _ hg2.lt (fun e => hg2.ne_own ho2 (by decide) e.symm))
  refine hKK.out _ _ ⟨hi4.cell 0, hm4.cell 0, (hg4.cell mid).trans ha, (hg4.cell (mid + 1)).trans hb, fun _ => hc4.cell 2⟩ ?_
  clear hKK KK
  try simp only [Act.put, List.setIfInBounds_toArray]
  refine wpAnyB_take (i := 14) (oi := _) (v := ?vv13) (fun w' => w'.cell? ⟨gi, 0, none⟩ = some (.int .i64 i) ∧ w'.cell? ⟨gm, 0, none⟩ = some (.int .i64 (mid : Int)) ∧ w'.cell? ⟨gl, mid, none⟩ = some (.int .i64 la) ∧ w'.cell? ⟨gl, mid + 1, none⟩ = some (.int .i64 lb)) rfl (by kernel_rfl) (by kernel_rfl) (by kernel_rfl) (by kernel_rfl) (by rfl) (fun _ h => ⟨h.1, h.2.1, h.2.2.1, h.2.2.2.1⟩) (.inl fun _ h => ⟨h.1, h.2.1, h.2.2.1, h.2.2.2.1⟩) (fun _ _ _ h => h) (.inl ⟨by rfl, ?hy13⟩) ⟨hi4.cell 0, hm4.cell 0, (hg4.cell mid).trans ha, (hg4.cell (mid + 1)).trans hb, fun _ => hc4.cell 2⟩ ?_
  case hy13 =>
    intro w' hSw
    try dsimp only at hSw
    go_simp
    all_goals with_reducible rfl
  try simp only [Act.put]
  refine wpAnyB_one (i := 15) true rfl (by kernel_rfl) (by kernel_rfl) ?_
  intro KK hKK
  have f4 := hc4.free 2
  have q4 := hc4.lt
  have s4 : w4.cell? ⟨gc, 2, none⟩ = some (.slice P np cp) := hc4.cell 2
  go_simp
  refine hKK.out _ _ ⟨(hi4.far (b := gc) (by omega) 2 (.slice A4 (np + 1) c4)).cell 0, (hm4.far (b := gc) (by omega) 2 (.slice A4 (np + 1) c4)).cell 0, ((hg4.far (b := gc) (by omega) 2 (.slice A4 (np + 1) c4)).cell mid).trans ha, ((hg4.far (b := gc) (by omega) 2 (.slice A4 (np + 1) c4)).cell (mid + 1)).trans hb, fun hh => by cases hh⟩ ?_
  clear hKK KK
  try simp only [Act.put, List.setIfInBounds_toArray, List.set_cons_zero, List.set_cons_succ]
  refine wpAnyB_done (by kernel_rfl) (NoPanic.normal ?_) _
  have hne := hc4.ne_own hown4 (by decide)
  have hO5 := (But.set gc w4 2 (.slice A4 (np + 1) c4)).own hown4 hne
  have hK5 := KeepP.mk1 (gc := gc) B2 hgrow4 2 (.slice A4 (np + 1) c4)
  have hC5 := hc4.set 2 (.slice A4 (np + 1) c4)
  go_end0
  refine ⟨⟨_, rfl⟩, A4, c4, ?_, ?_, ?_⟩
  · first | exact hC5 | exact hC5.drew
  · rw [qsC_app]; first | exact hO5 | exact own_below hO5 (Below.drew (Below.refl _ _))
  · first | exact hK5 | exact hK5.drew
end Go.Proofs.Ytdimfbmbomgiaaa
/-
  Plain words: the cloth that a sheet makes, step by step (chapter 17).
-/
namespace Go.Proofs.Ytdimfbmbomgiaaa
open Go.RowKit
/-- the line, the crossings and the pins made so far -/
structure Mk where
  l : List Int
  xs : List Q4
  ps : List Q4
def Mk.pin (s : Mk) (i : Int) (mid : Nat) : Mk := { s with ps := s.ps ++ [⟨i, (mid : Int), s.l.getD mid 0, s.l.getD (mid + 1) 0⟩] }
/-- the place of a crossing of a work -/
def mkAt (mid : Nat) (n : Int) : Int := (mid : Int) - 2 + (if n < -n then -n else n)
def mkX (l : List Int) (i : Int) (mid : Nat) (n : Int) : Q4 := if n < 0 then ⟨i, mkAt mid n, l.getD ((mkAt mid n).toNat + 1) 0, l.getD (mkAt mid n).toNat 0⟩ else ⟨i, mkAt mid n, l.getD (mkAt mid n).toNat 0, l.getD ((mkAt mid n).toNat + 1) 0⟩
def Mk.cross (s : Mk) (i : Int) (mid : Nat) (n : Int) : Mk := { s with l := swapL s.l (mkX s.l i mid n), xs := s.xs ++ [mkX s.l i mid n] }
/-- the first k crossings of a letter -/
def Mk.crosses (s : Mk) (i : Int) (mid : Nat) (ns : List Int) : Nat → Mk
  | 0 => s
  | k + 1 => match ns[k]? with
    | some n => (s.crosses i mid ns k).cross i mid n
    | none => s.crosses i mid ns k
def Mk.letter (s : Mk) (i : Int) (mid : Nat) (c : UInt8) : Mk := if c = 80 then s.pin i mid else s.crosses i mid (crW [c] 1) (crW [c] 1).length
/-- the first k letters of a word -/
def Mk.letters (s : Mk) (i : Int) (mid : Nat) (bs : List UInt8) : Nat → Mk
  | 0 => s
  | k + 1 => match bs[k]? with
    | some c => (s.letters i mid bs k).letter i mid c
    | none => s.letters i mid bs k
/-- the place between the two pairs of a work -/
def mkMid (x : Wk) : Nat := 2 * x.at_.toNat + 1
def Mk.work (s : Mk) (i : Nat) (x : Wk) : Mk := (if x.kind = 2 then s.pin (i : Int) (mkMid x) else s).letters (i : Int) (mkMid x) x.word.data.toList x.word.data.toList.length
/-- the first k works of a sheet -/
def Mk.works (ws : List Wk) : Nat → Mk
  | 0 => ⟨lineL 48, [], []⟩
  | k + 1 => match ws[k]? with
    | some x => (Mk.works ws k).work k x
    | none => Mk.works ws k
theorem Mk.cross_len (s : Mk) (i : Int) (mid : Nat) (n : Int) : (s.cross i mid n).l.length = s.l.length := by
  unfold Mk.cross swapL; simp
theorem Mk.crosses_len (s : Mk) (i : Int) (mid : Nat) (ns : List Int) : ∀ k, (s.crosses i mid ns k).l.length = s.l.length
  | 0 => rfl
  | k + 1 => by
    unfold Mk.crosses
    split
    · rw [Mk.cross_len, Mk.crosses_len s i mid ns k]
    · exact Mk.crosses_len s i mid ns k
theorem Mk.letter_len (s : Mk) (i : Int) (mid : Nat) (c : UInt8) : (s.letter i mid c).l.length = s.l.length := by
  unfold Mk.letter
  split
  · rfl
  · exact Mk.crosses_len _ _ _ _ _
theorem Mk.letters_len (s : Mk) (i : Int) (mid : Nat) (bs : List UInt8) : ∀ k, (s.letters i mid bs k).l.length = s.l.length
  | 0 => rfl
  | k + 1 => by
    unfold Mk.letters
    split
    · rw [Mk.letter_len, Mk.letters_len s i mid bs k]
    · exact Mk.letters_len s i mid bs k
theorem Mk.work_len (s : Mk) (i : Nat) (x : Wk) : (s.work i x).l.length = s.l.length := by
  unfold Mk.work
  rw [Mk.letters_len]
  split <;> rfl
theorem Mk.works_len (ws : List Wk) : ∀ k, (Mk.works ws k).l.length = 48
  | 0 => lineL_len 48
  | k + 1 => by
    unfold Mk.works
    split
    · rw [Mk.work_len, Mk.works_len ws k]
    · exact Mk.works_len ws k
/-- two rows of the call's own with elements of two types lie in two blocks -/
theorem own_apart {w : World} {base base' : Nat} {e e' : TypeId} {size size' n n' : Nat} {v v' : Value} {xs xs' : List Value} (h : w.ownsRow base e size v n xs) (h' : w.ownsRow base' e' size' v' n' xs') (hne : e ≠ e') {b : Nat} (hb : v.ownBlock = some b) : v'.ownBlock ≠ some b := by
  rcases h.2 with ⟨rfl, _⟩ | ⟨g, cap, cur, rfl, _, hh, _⟩
  · simp [Value.ownBlock] at hb
  · have hg : g = b := by simpa [Value.ownBlock] using hb
    subst hg
    have hH : Has w g e cur.toList := by unfold Has; rw [hh, Array.toArray_toList]
    exact hH.ne_own h' hne
/-- the example of the document -/
theorem mk_example : (Mk.works [⟨1, 0, ⟨#[67, 84, 80, 67]⟩⟩] 1).xs = [⟨0, 1, 1, 2⟩, ⟨0, 0, 2, 0⟩, ⟨0, 2, 3, 1⟩, ⟨0, 1, 0, 3⟩] ∧ (Mk.works [⟨1, 0, ⟨#[67, 84, 80, 67]⟩⟩] 1).ps = [⟨0, 1, 0, 3⟩] := by decide +kernel
end Go.Proofs.Ytdimfbmbomgiaaa
/-
  Contract of sheet.Check, and of slices.ContainsFunc over works with Check's closure.
-/
namespace Go.Proofs.Ytdimfbmbomgiaaa
open Go.RowKit
theorem shCheck1 (k a : Int) (s : ByteArray) (w : World) (hs : s.size ≤ 9223372036854775807) :
    Calls Try.prog 48 #[.agg #[.int .i64 k, .int .i64 a, .string s]] w fun e w' => e = .returned (.bool (decide (16 < s.size))) ∧ Below w.heap.size w w' := by
  go_enter Try.func48, Try.ntmps48
  go_wp2
  go_ret
  exact ⟨ret_bool (by simp; omega), by go_grown⟩
/-- some work before the k-th has a long word -/
def someLong (ws : List Wk) : Bool := ws.any fun x => decide (16 < x.word.size)
set_option maxRecDepth 100000 in
set_option maxHeartbeats 400000 in
theorem indexFunc1 (A : Option Addr) (n c : Nat) (ws : List Wk) (w : World) (hn : n ≤ 9223372036854775807) (hw : RdW w w.heap.size A ws) (hl : ws.length = n)
    (hs : ∀ x ∈ ws, x.word.size ≤ 9223372036854775807) :
    Calls Try.prog 58 #[.slice A n c, .func (.func 48) #[] #[]] w fun e w' => ∃ i : Int, e = .returned (.int .i64 i) ∧ decide (0 ≤ i) = someLong ws ∧ Below w.heap.size w w' := by
  have HW := Lib.hid hw; clear hw
  have HL := Lib.hid hl; clear hl
  have HS := Lib.hid hs; clear hs
  go_enter Try.func58, Try.ntmps58
  go_wp2
  go_loopw [8] (fun i wr => ∃ k : Nat, k ≤ n ∧ i = .int .i64 k ∧ Below w.heap.size w wr ∧ (∀ (j : Nat) (x : Wk), j < k → ws[j]? = some x → x.word.size ≤ 16)) (fun i _ => n - (intOf i).toNat)
  case atStart => exact ⟨0, Nat.zero_le _, rfl, by go_grown, fun j _ hj => absurd hj (by omega)⟩
  case round =>
    obtain ⟨k, hk, rfl, hbw, hno⟩ := hrel
    have H := Lib.hid hno; clear hno
    by_cases hlt : k < n
    · obtain ⟨x, hx⟩ := get_of_lt (l := ws) (k := k) (by rw [HL.out]; exact hlt)
      obtain ⟨b, o, rfl, hb, c1, c2, c3⟩ := (HW.out.below hbw (Nat.le_refl _)) k x hx
      have hsx := HS.out x (mem_of_get hx)
      have HX := Lib.hid hx; clear hx
      go_wp2_with (go_at_call 48; refine (shCheck1 _ _ _ _ hsx).mono ?_; rintro e w1 ⟨rfl, hb1⟩)
      · go_ret
        exact ⟨_, rfl, by
          have h16 : 16 < x.word.size := by assumption
          rw [show someLong ws = true from List.any_eq_true.2 ⟨x, mem_of_get HX.out, by simpa using h16⟩]; simp, hbw.trans (hb1.mono hbw.size)⟩
      · go_roundw
        case rel => exact ⟨k + 1, by omega, by go_num, hbw.trans (hb1.mono hbw.size), get_step H.out HX.out (by omega)⟩
        case measure => simp [intOf]; omega
    · go_wp2
      go_ret
      exact ⟨_, rfl, by
        have : someLong ws = false := by
          unfold someLong
          rw [List.any_eq_false]
          intro x hx
          obtain ⟨j, hj, rfl⟩ := List.mem_iff_getElem.1 hx
          have := H.out j _ (by rw [HL.out] at hj; omega) (List.getElem?_eq_getElem hj)
          simp; omega
        rw [this]; simp, hbw⟩
theorem containsFunc1 (A : Option Addr) (n c : Nat) (ws : List Wk) (w : World) (hn : n ≤ 9223372036854775807) (hw : RdW w w.heap.size A ws) (hl : ws.length = n)
    (hs : ∀ x ∈ ws, x.word.size ≤ 9223372036854775807) :
    Calls Try.prog 47 #[.slice A n c, .func (.func 48) #[] #[]] w fun e w' => e = .returned (.bool (someLong ws)) ∧ Below w.heap.size w w' := by
  go_enter Try.func47, Try.ntmps47
  go_wp2_with (go_at_call 58; refine (indexFunc1 _ _ _ _ _ hn hw hl hs).mono ?_; rintro e w' ⟨i, rfl, hi, hb⟩; have HI := Lib.hid hi; clear hi)
  go_ret
  exact ⟨ret_bool (by rw [← HI.out]; try simp), hb⟩
end Go.Proofs.Ytdimfbmbomgiaaa
/-
  Contract of sheet.Check: the error of a sheet.
-/
namespace Go.Proofs.Ytdimfbmbomgiaaa
open Go.RowKit
/-- what sheet.Check has found of the forms of the first k works -/
def formTo (ws : List Wk) (k : Nat) : Int := if (ws.take k).all (fun x => wOk x.word) then 0 else 6
theorem formTo_zero (ws : List Wk) : formTo ws 0 = 0 := by simp [formTo]
theorem formTo_succ {ws : List Wk} {k : Nat} {x : Wk} (hx : ws[k]? = some x) (h16 : x.word.size ≤ 16) : formTo ws (k + 1) = if formTo ws k < wchk x.word then wchk x.word else formTo ws k := by
  unfold formTo
  rw [List.take_add_one, hx, List.all_append]
  cases h : wOk x.word with
  | true => rw [wchk_ok h16 h]; cases hh : (ws.take k).all (fun x => wOk x.word) <;> simp [h]
  | false => rw [wchk_bad h16 h]; cases hh : (ws.take k).all (fun x => wOk x.word) <;> simp [h]
theorem formTo_cases (ws : List Wk) (k : Nat) : formTo ws k = 0 ∨ formTo ws k = 6 := by unfold formTo; split <;> simp
theorem formTo_all (ws : List Wk) (n : Nat) (h : ws.length ≤ n) : formTo ws n = if ws.all (fun x => wOk x.word) then 0 else 6 := by
  unfold formTo; rw [List.take_of_length_le h]
theorem someLong_no {ws : List Wk} (h : someLong ws = false) : ∀ (k : Nat) (x : Wk), ws[k]? = some x → x.word.size ≤ 16 := fun k x hx => by
  unfold someLong at h
  rw [List.any_eq_false] at h
  have := h x (mem_of_get hx)
  simp at this; omega
theorem someLong_yes {ws : List Wk} (h : someLong ws = true) : ∃ (k : Nat) (x : Wk), ws[k]? = some x ∧ 16 < x.word.size := by
  unfold someLong at h
  obtain ⟨x, hx, h⟩ := List.any_eq_true.1 h
  obtain ⟨k, hk, rfl⟩ := List.mem_iff_getElem.1 hx
  exact ⟨k, _, List.getElem?_eq_getElem hk, by simpa using h⟩
theorem wkBad_of2 {p : Int} {x : Wk} (h : (¬ x.kind = 1 ∧ (¬ x.kind = 2 ∨ x.word.toList.isEmpty = false)) ∨ x.at_ < 0 ∨ p - 2 < x.at_) : wkBad p x = true := by
  rcases h with ⟨h1, h2⟩ | h | h
  · by_cases hk : x.kind = 2
    · rcases h2 with h2 | h2
      · exact absurd hk h2
      · exact wkBad_of (.inr (.inr (.inr ⟨hk, by simp [h2]⟩)))
    · exact wkBad_of (.inl ⟨h1, hk⟩)
  · exact wkBad_of (.inr (.inl h))
  · exact wkBad_of (.inr (.inr (.inl h)))
set_option maxRecDepth 100000 in
set_option maxHeartbeats 1000000 in
theorem shCheck (p : Int) (A : Option Addr) (n c : Nat) (ws : List Wk) (w : World) (hn : n ≤ 9223372036854775807) (hw : RdW w w.heap.size A ws) (hl : ws.length = n)
    (hs : ∀ x ∈ ws, x.word.size ≤ 9223372036854775807) :
    Calls Try.prog 29 #[.agg #[.int .i64 p, .slice A n c]] w fun e w' => e = .returned (.int .i64 (schk p ws)) ∧ Below w.heap.size w w' := by
  have HW := Lib.hid hw; clear hw
  have HL := Lib.hid hl; clear hl
  have HS := Lib.hid hs; clear hs
  by_cases hp : 24 < p
  · go_enter Try.func29, Try.ntmps29
    go_wp2
    go_ret
    exact ⟨ret_int (schk_long (.inl hp)).symm, by go_grown⟩
  have hp' : p ≤ 24 := by omega
  clear hp
  by_cases hn4 : 400 < n
  · have hd : decide ((400 : Int) < (n : Int)) = true := by simp; omega
    go_enter Try.func29, Try.ntmps29
    go_wp2
    go_ret
    exact ⟨ret_int (schk_long (.inr (.inl (by rw [HL.out]; exact hn4)))).symm, by go_grown⟩
  have hn4' : n ≤ 400 := by omega
  have hd : decide ((400 : Int) < (n : Int)) = false := by simp; omega
  have hd2 : decide ((24 : Int) < p) = false := by simp; omega
  clear hn4
  cases hlong : someLong ws with
  | true =>
    have H1 := Lib.hid hlong; clear hlong
    go_enter Try.func29, Try.ntmps29
    go_wp2_with (go_at_call 47; refine (containsFunc1 _ _ _ _ _ (by omega) (HW.out.up (by go_grown)) HL.out HS.out).mono ?_; rintro e w1 ⟨rfl, hb1⟩; rw [H1.out])
    go_ret
    exact ⟨ret_int (schk_long (.inr (.inr (someLong_yes H1.out)))).symm, bvia (by go_grown) hb1⟩
  | false =>
    have H1 := Lib.hid hlong; clear hlong
    have H16 : Hid (∀ (j : Nat) (x : Wk), ws[j]? = some x → x.word.size ≤ 16) := someLong_no H1.out
    by_cases h2 : p < 2
    · go_enter Try.func29, Try.ntmps29
      go_wp2_with (go_at_call 47; refine (containsFunc1 _ _ _ _ _ (by omega) (HW.out.up (by go_grown)) HL.out HS.out).mono ?_; rintro e w1 ⟨rfl, hb1⟩; rw [H1.out]; obtain ⟨hc, hf⟩ := bcell hb1)
      go_ret
      exact ⟨ret_int (schk_arg hp' (by rw [HL.out]; exact hn4') H16.out (.inl h2)).symm, bvia (by go_grown) hb1⟩
    have h2' : 2 ≤ p := by omega
    clear h2
    go_enter Try.func29, Try.ntmps29
    go_wp2_with (go_at_call 47; refine (containsFunc1 _ _ _ _ _ (by omega) (HW.out.up (by go_grown)) HL.out HS.out).mono ?_; rintro e w1 ⟨rfl, hb1⟩; rw [H1.out]; obtain ⟨hc, hf⟩ := bcell hb1)
    have hc0 : w1.cell? ⟨w.heap.size, 0, none⟩ = some (.int .i64 p) := by rw [hc _ _ (by simp)]; go_simp
    have hc1 : w1.cell? ⟨w.heap.size, 1, none⟩ = some (.slice A n c) := by rw [hc _ _ (by simp)]; go_simp
    have hbw : Below w.heap.size w w1 := bvia (by go_grown) hb1
    have hz : w.heap.size < w1.heap.size := by have := hb1.size; simp at this; omega
    clear hc hf hb1
    go_loopw [3, 26] (fun f i wr => ∃ k : Nat, k ≤ n ∧ i = .int .i64 k ∧ f = .int .i64 (formTo ws k) ∧ Below w.heap.size w wr ∧ wr.cell? ⟨w.heap.size, 0, none⟩ = some (.int .i64 p) ∧ wr.cell? ⟨w.heap.size, 1, none⟩ = some (.slice A n c) ∧ w.heap.size < wr.heap.size ∧ (∀ (j : Nat) (x : Wk), j < k → ws[j]? = some x → wkBad p x = false)) (fun _ i _ => n - (intOf i).toNat)
    case atStart => exact ⟨0, Nat.zero_le _, rfl, by rw [formTo_zero], hbw, hc0, hc1, hz, fun j _ hj => absurd hj (by omega)⟩
    case round =>
      clear hbw hc0 hc1 hz
      obtain ⟨k, hk, rfl, rfl, hbw, d0, d1, hz, hno⟩ := hrel
      have H := Lib.hid hno; clear hno
      by_cases hlt : k < n
      · obtain ⟨x, hx⟩ := get_of_lt (l := ws) (k := k) (by rw [HL.out]; exact hlt)
        obtain ⟨b, o, rfl, hb, c1, c2, c3⟩ := (HW.out.below hbw (Nat.le_refl _)) k x hx
        have hsx := HS.out x (mem_of_get hx)
        have h16 := H16.out k x hx
        have HF := Lib.hid (formTo_succ hx h16)
        have HX := Lib.hid hx; clear hx
        go_wp2_with (go_at_call 49; refine (stCheck _ _ hsx).mono ?_; rintro e w' ⟨rfl, rfl⟩)
        all_goals first
          | (go_roundw
             case rel => exact ⟨k + 1, by omega, by go_num, by rw [HF.out], by go_grown, by go_simp, by go_simp, by go_grown, get_step H.out HX.out (wkGood_of (by first | exact .inl ‹_› | exact .inr ⟨‹_›, by simp [‹x.word.toList.isEmpty = true›]⟩) (by omega) (by omega))⟩
             case measure => simp [intOf]; omega)
          | (go_ret
             exact ⟨ret_int (schk_arg hp' (by rw [HL.out]; exact hn4') H16.out (.inr ⟨k, x, HX.out, wkBad_of2 (by first | exact .inl ⟨‹_›, .inl ‹_›⟩ | exact .inl ⟨‹_›, .inr ‹_›⟩ | exact .inr (.inl ‹_›) | exact .inr (.inr ‹_›))⟩)).symm, by go_grown⟩)
      · have hn2 : ws.length ≤ k := by rw [HL.out]; omega
        go_wp2
        go_ret
        exact ⟨ret_int (by rw [schk_form hp' (by rw [HL.out]; exact hn4') H16.out h2' (get_all H.out hn2), formTo_all _ _ hn2]), hbw⟩
end Go.Proofs.Ytdimfbmbomgiaaa
/-
  Plain law: the threads that the crossings of a cloth without error name are threads of it.
-/
namespace Go.Proofs.Ytdimfbmbomgiaaa
open Go.RowKit
theorem endsTo_rng (xs : List Q4) (T : Nat) : ∀ (k : Nat) (L : List Int), endsTo xs (lineL T) k = some L → ∀ v ∈ L, 0 ≤ v ∧ v < (T : Int)
  | 0, L, h => by
    obtain rfl : lineL T = L := by injection h
    intro v hv
    simp [lineL] at hv
    obtain ⟨j, hj, rfl⟩ := hv
    omega
  | k + 1, L, h => by
    cases hE : endsTo xs (lineL T) k with
    | none => rw [show endsTo xs (lineL T) (k + 1) = none from endsTo_none hE _ (Nat.le_succ k)] at h; cases h
    | some L' =>
      have ih := endsTo_rng xs T k L' hE
      cases hx : xs[k]? with
      | none =>
        have : endsTo xs (lineL T) (k + 1) = none := by
          show (endsTo xs (lineL T) k).bind _ = none
          rw [hE, hx]; rfl
        rw [this] at h; cases h
      | some x =>
        rw [endsTo_succ hE hx] at h
        unfold endStep at h
        split at h
        · rename_i a b ha hb
          split at h
          · injection h with h
            subst h
            intro v hv
            rcases List.mem_or_eq_of_mem_set hv with hv | rfl
            · rcases List.mem_or_eq_of_mem_set hv with hv | rfl
              · exact ih v hv
              · exact ih _ (mem_of_get hb)
            · exact ih _ (mem_of_get ha)
          · cases h
        · cases h
theorem endsTo_some {xs : List Q4} {L : List Int} {n : Nat} (h : (endsTo xs L n).isSome = true) {k : Nat} (hk : k ≤ n) : ∃ L', endsTo xs L k = some L' := by
  cases hE : endsTo xs L k with
  | none => rw [endsTo_none hE _ hk] at h; cases h
  | some L' => exact ⟨L', rfl⟩
theorem ends_rng {t : Int} {xs : List Q4} (h0 : 2 ≤ t) (h : endsOk t xs = true) : ∀ x ∈ xs, (0 ≤ x.c ∧ x.c < t) ∧ (0 ≤ x.d ∧ x.d < t) := fun x hm => by
  obtain ⟨k, hk⟩ := List.mem_iff_getElem?.1 hm
  have hlt := lt_of_get hk
  obtain ⟨L, hL⟩ := endsTo_some h (k := k) (by omega)
  obtain ⟨L', hL'⟩ := endsTo_some h (k := k + 1) (by omega)
  have hr := endsTo_rng xs t.toNat k L hL
  rw [endsTo_succ hL hk] at hL'
  unfold endStep at hL'
  split at hL'
  · rename_i a b ha hb
    split at hL'
    · rename_i hok
      have h1 := hr a (mem_of_get ha)
      have h2 := hr b (mem_of_get hb)
      unfold endOk at hok
      simp at hok
      omega
    · cases hL'
  · cases hL'
theorem ckE_ok {t : Int} {xs ps : List Q4} (h : ckE t xs ps = 0) : 2 ≤ t ∧ t ≤ 48 ∧ xs.length ≤ 20000 ∧ ps.length ≤ 6400 ∧ (∀ x ∈ xs, okC t x = true) ∧ (∀ x ∈ ps, okP t x = true) ∧ endsOk t xs = true := by
  unfold ckE at h
  split at h
  · cases h
  · rename_i h1
    split at h
    · cases h
    · rename_i h2
      split at h
      · cases h
      · rename_i h3
        obtain ⟨p1, p2, p3⟩ := numsOk_parts (t := t) (xs := xs) (ps := ps) (by simpa using h2)
        exact ⟨p1, by omega, by omega, by omega, p2, p3, by simpa using h3⟩
/-- what is known of each crossing of a cloth without error -/
theorem cross_ok {t : Int} {xs ps : List Q4} (h : ckE t xs ps = 0) : ∀ x ∈ xs, ((0 ≤ x.c ∧ x.c < t) ∧ (0 ≤ x.d ∧ x.d < t)) ∧ (0 ≤ x.b ∧ x.b ≤ t - 2) := fun x hm => by
  obtain ⟨h0, _, _, _, h1, _, h2⟩ := ckE_ok h
  refine ⟨ends_rng h0 h2 x hm, ?_⟩
  have := h1 x hm
  unfold okC at this
  simp at this
  omega
end Go.Proofs.Ytdimfbmbomgiaaa
/-
  Contracts of chapter 17: slices.Contains, the threads that are asked for.
-/
namespace Go.Proofs.Ytdimfbmbomgiaaa
open Go.RowKit
/-- a thread of the cloth -/
def inT (t n : Int) : Bool := decide (0 ≤ n) && decide (n ≤ t - 1)
/-- are the first k of some threads threads of the cloth, each but once? -/
def thTo (t : Int) (ths : List Int) : Nat → Bool
  | 0 => true
  | k + 1 => thTo t ths k && (match ths[k]? with | some x => inT t x && !(ths.take k).contains x | none => true)
def askE (t : Int) (xs ps : List Q4) (ths : List Int) : Int := if ckE t xs ps = 0 then (if thTo t ths ths.length = true then 0 else 2) else ckE t xs ps
theorem thTo_succ {t : Int} {ths : List Int} {k : Nat} {x : Int} (h : ths[k]? = some x) : thTo t ths (k + 1) = (thTo t ths k && (inT t x && !(ths.take k).contains x)) := by
  show (thTo t ths k && (match ths[k]? with | some x => inT t x && !(ths.take k).contains x | none => true)) = _
  rw [h]
theorem thTo_no {t : Int} {ths : List Int} {k : Nat} (h : thTo t ths k = false) : ∀ d, thTo t ths (k + d) = false
  | 0 => h
  | d + 1 => by
    have := thTo_no h d
    show (thTo t ths (k + d) && _) = false
    rw [this]; rfl
theorem thTo_bad {t : Int} {ths : List Int} {k : Nat} (h : thTo t ths k = false) (hk : k ≤ ths.length) : thTo t ths ths.length = false := by
  obtain ⟨d, hd⟩ : ∃ d, ths.length = k + d := ⟨ths.length - k, by omega⟩
  rw [hd]; exact thTo_no h d
theorem has_step {l : List Int} {k : Nat} {x v : Int} (hx : l[k]? = some x) : (l.take (k + 1)).contains v = ((l.take k).contains v || (v == x)) := by
  rw [List.take_add_one, hx]
  rw [Bool.eq_iff_iff]
  simp
theorem has_yes {l : List Int} {k : Nat} {x v : Int} (hx : l[k]? = some x) (h : v = x) : l.contains v = true := by
  rw [List.contains_iff_mem, h]; exact mem_of_get hx
theorem rdI_take {w : World} {B k : Nat} {A : Option Addr} {D : List Int} (h : RdI w B A D) : RdI w B A (D.take k) := fun j x hx => by
  have hj := lt_of_get hx
  rw [List.length_take] at hj
  rw [List.getElem?_take_of_lt (by omega)] at hx
  exact h j x hx
end Go.Proofs.Ytdimfbmbomgiaaa
/-
  Contracts of chapter 17: the crossings that all of some threads make; Follow and Meet.
-/
namespace Go.Proofs.Ytdimfbmbomgiaaa
open Go.RowKit
/-- does a crossing name a thread? -/
def ofP (x : Q4) (n : Int) : Bool := n == x.c || n == x.d
/-- which of the first k crossings name all of some threads -/
def ofTo (xs : List Q4) (ths : List Int) : Nat → List Int
  | 0 => []
  | k + 1 => match xs[k]? with
    | some x => if ths.all (ofP x) = true then ofTo xs ths k ++ [(k : Int)] else ofTo xs ths k
    | none => ofTo xs ths k
def ofR (t : Int) (xs ps : List Q4) (ths : List Int) : List Int := if askE t xs ps ths = 0 then ofTo xs ths xs.length else []
theorem ofTo_yes {xs : List Q4} {ths : List Int} {k : Nat} {x : Q4} (h : xs[k]? = some x) (ha : ths.all (ofP x) = true) : ofTo xs ths (k + 1) = ofTo xs ths k ++ [(k : Int)] := by
  show (match xs[k]? with | some x => if ths.all (ofP x) = true then ofTo xs ths k ++ [(k : Int)] else ofTo xs ths k | none => ofTo xs ths k) = _
  rw [h]; simp only [ha, if_true]
theorem ofTo_no {xs : List Q4} {ths : List Int} {k : Nat} {x : Q4} (h : xs[k]? = some x) (ha : ths.all (ofP x) = false) : ofTo xs ths (k + 1) = ofTo xs ths k := by
  show (match xs[k]? with | some x => if ths.all (ofP x) = true then ofTo xs ths k ++ [(k : Int)] else ofTo xs ths k | none => ofTo xs ths k) = _
  rw [h]; simp only [ha]; rfl
theorem allP_step {p : Int → Bool} {l : List Int} {k : Nat} {x : Int} (hx : l[k]? = some x) : (l.take (k + 1)).all p = ((l.take k).all p && p x) := by
  rw [List.take_add_one, hx]; simp
theorem allP_no {p : Int → Bool} {l : List Int} {k : Nat} {x : Int} (hx : l[k]? = some x) (h : p x = false) : l.all p = false := by
  rw [List.all_eq_false]; exact ⟨x, mem_of_get hx, by rw [h]; simp⟩
end Go.Proofs.Ytdimfbmbomgiaaa
/-
  Contracts of chapter 17: Follow and Meet of both packages.
-/
namespace Go.Proofs.Ytdimfbmbomgiaaa
open Go.RowKit
theorem rdI_lits (w : World) (l : List Int) : RdI (w.alloc (.cells (l.map vInt).toArray 3)) (w.alloc (.cells (l.map vInt).toArray 3)).heap.size (some ⟨w.heap.size, 0, none⟩) l := fun k x hx => by
  refine ⟨w.heap.size, 0, rfl, by simp, ?_⟩
  rw [Nat.zero_add, (Has.new rfl).cell, List.getElem?_map, hx]; rfl
theorem ask_one (t : Int) (xs ps : List Q4) (a : Int) : askE t xs ps [a] = if ckE t xs ps = 0 then (if inT t a = true then 0 else 2) else ckE t xs ps := by
  unfold askE
  have : thTo t [a] [a].length = inT t a := by simp [thTo]
  rw [this]
theorem ask_two (t : Int) (xs ps : List Q4) (a b : Int) : askE t xs ps [a, b] = if ckE t xs ps = 0 then (if inT t a = true ∧ inT t b = true ∧ a ≠ b then 0 else 2) else ckE t xs ps := by
  unfold askE
  have : (thTo t [a, b] [a, b].length = true) ↔ (inT t a = true ∧ inT t b = true ∧ a ≠ b) := by
    simp [thTo]
    intro _ _
    exact ⟨fun h e => h e.symm, fun h e => h e.symm⟩
  simp only [this]
theorem no_one {x : Q4} {a b : Int} (h1 : ¬ x.c = a) (h3 : ¬ x.d = a) : [a, b].all (ofP x) = false := by
  have q1 : ofP x a = false := by unfold ofP; simp; exact ⟨fun h => h1 h.symm, fun h => h3 h.symm⟩
  simp [q1]
theorem no_two {x : Q4} {a b : Int} (hab : a ≠ b) (h1 : ¬ x.c = a) (h2 : ¬ x.c = b) : [a, b].all (ofP x) = false := by
  by_cases h3 : x.d = a
  · have q1 : ofP x b = false := by unfold ofP; simp; exact ⟨fun h => h2 h.symm, fun h => hab (h3.symm.trans h.symm)⟩
    simp [q1]
  · exact no_one h1 h3
end Go.Proofs.Ytdimfbmbomgiaaa
/-
  Contract of chapter 17: Ends.
-/
namespace Go.Proofs.Ytdimfbmbomgiaaa
open Go.RowKit
def endsR (t : Int) (xs ps : List Q4) : List Int := if ckE t xs ps = 0 then (lineTo xs (lineL 48) xs.length).take t.toNat else []
theorem keepC_below {g B : Nat} {V W : World} (h : KeepC g V W) (hB : B ≤ g) (hV : B ≤ V.heap.size) : Below B V W := ⟨h.os, h.tape, h.output, h.size, fun i hi => h.same i (by omega) (by omega)⟩
theorem lineTo_next {xs : List Q4} {L : List Int} {k i : Nat} {x : Q4} {a b : Int} (h : xs[k]? = some x) (hi : x.b = (i : Int)) (ha : (lineTo xs L k)[i]? = some a) (hb : (lineTo xs L k)[i + 1]? = some b) : lineTo xs L (k + 1) = ((lineTo xs L k).set i b).set (i + 1) a := by
  show (match xs[k]? with | some x => swapL (lineTo xs L k) x | none => lineTo xs L k) = _
  rw [h]
  show swapL (lineTo xs L k) x = _
  unfold swapL
  rw [hi, show ((i : Nat) : Int).toNat = i by simp, List.getD_eq_getElem?_getD, List.getD_eq_getElem?_getD, ha, hb]; rfl
theorem rdI_hasC {w : World} {g : Nat} {t : TypeId} {L : List Int} (h : Has w g t (L.map vInt)) : RdI w w.heap.size (some ⟨g, 0, none⟩) L := fun k x hx => by
  refine ⟨g, 0, rfl, h.lt, ?_⟩
  rw [Nat.zero_add, h.cell, List.getElem?_map, hx]; rfl
set_option maxRecDepth 100000 in
set_option maxHeartbeats 4000000 in
theorem ends18 (t : Int) (A B : Option Addr) (n c m d : Nat) (xs ps : List Q4) (w : World) (hn : n ≤ 9223372036854775807) (hm : m ≤ 9223372036854775807) (hx : RdQ w w.heap.size A xs) (hp : RdQ w w.heap.size B ps)
    (hl : xs.length = n) (hl' : ps.length = m) (ht0 : -9223372036854775808 ≤ t) :
    Calls Try.prog 53 #[vCloth t A n c B m d] w (RetIE (endsR t xs ps) (ckE t xs ps) w) := by
  have HX := Lib.hid hx
  have C1 := Lib.hid (fun (W : World) (hb : Below w.heap.size w W) => check42 t A B n c m d xs ps W hn hm (hx.up hb) (hp.up hb) hl hl' ht0)
  clear hx hp
  have K0 : Has (w.alloc (.cells #[.int .i64 t, .slice A n c, .slice B m d] 49)) w.heap.size 49 [.int .i64 t, .slice A n c, .slice B m d] := Has.new rfl
  by_cases hE : ckE t xs ps = 0
  · obtain ⟨ht2, ht48, hn2, _⟩ := ckE_ok hE
    rw [hl] at hn2
    obtain ⟨Tn, rfl⟩ := Int.eq_ofNat_of_zero_le (show 0 ≤ t by omega)
    have hT : Tn ≤ 48 := by omega
    have hT' : (Tn : Int) ≤ 48 := by omega
    have hT0 : (0 : Int) ≤ (Tn : Int) := by omega
    have HCR := Lib.hid (fun x hx => (cross_ok hE x hx).2)
    have hR : endsR (Tn : Int) xs ps = (lineTo xs (lineL 48) n).take Tn := by unfold endsR; rw [if_pos hE, hl]; simp
    rw [hR, hE]
    rw [hE] at C1
    have HL := Lib.hid hl
    clear hR hE hl hl' ht2 ht48
    go_enter Try.func53, Try.ntmps53
    go_wp2_with fail
    refine (C1.out _ (by go_grown)).mono ?_
    rintro e w1 ⟨rfl, hb1⟩
    have B1 := bvia (show Below w.heap.size w _ by go_grown) hb1
    have HC := Lib.hid (K0.below hb1 K0.lt)
    clear K0 hb1 C1
    go_wp2_with fail
    refine (begun57 _).mono ?_
    rintro e w2 ⟨rfl, hb2⟩
    have hlen : ((lineL 48).map vInt).length = 48 := by simp [lineL_len]
    have hinfo : (Try.prog.info? 109).map (·.size) = some 48 := by kernel_rfl
    have B2 := bvia B1 hb2
    replace HC := Lib.hid (HC.out.below hb2 HC.out.lt)
    have HX2 := Lib.hid (HX.out.up B2)
    clear HX hb2 B1
    go_wp2_with (first | (refine wpList_store_has rfl 109 (.tmp 5) (.tmp 13) rfl w2.heap.size ((lineL 48).map vInt) rfl rfl 109 _ (Has.new rfl) (by rw [hlen, hinfo]) (by rw [hlen]; rfl) (by simp [lineL]; intros; rfl) ?_) | fail)
    intro w3 hG3 hBut
    have hb3 : Below w2.heap.size w2 w3 := ((Below.refl _ w2).alloc (Nat.le_refl _) _).trans (hBut.below (Nat.le_refl _) (by simp))
    have HG3 := Lib.hid hG3
    have HC3 := Lib.hid (HC.out.below hb3 HC.out.lt)
    obtain ⟨gl, hgl⟩ : ∃ gl, gl = w2.heap.size := ⟨_, rfl⟩
    have hglw : w.heap.size < gl := by have := HC.out.lt; omega
    rw [← hgl] at HG3 ⊢
    have a0 : w3.cell? ⟨w.heap.size, 0, none⟩ = some (.int .i64 (Tn : Int)) := HC3.out.cell 0
    have a1 : w3.cell? ⟨w.heap.size, 1, none⟩ = some (.slice A n c) := HC3.out.cell 1
    have q := HC3.out.lt
    have HGL := Lib.hid hgl
    clear hG3 hBut hlen hinfo HC hgl
    go_wp2
    go_loopw [17] (fun i wr => ∃ j : Nat, j ≤ n ∧ i = .int .i64 (j : Int) ∧ Hid (Has wr gl 109 ((lineTo xs (lineL 48) j).map vInt)) ∧ Hid (Has wr w.heap.size 49 [.int .i64 (Tn : Int), .slice A n c, .slice B m d]) ∧ Below w2.heap.size w2 wr) (fun i _ => n - (intOf i).toNat)
    case atStart => exact ⟨0, Nat.zero_le _, rfl, HG3, HC3, hb3⟩
    case round =>
      clear HG3 HC3 hb3 a0 a1 q
      obtain ⟨j, hj, rfl, HG, HC, hb⟩ := hrel
      obtain ⟨wo, rfl⟩ : ∃ wo : World, wo = wr := ⟨_, rfl⟩
      have hz := hb.size
      by_cases hlt : j < n
      · obtain ⟨x, hx⟩ := get_of_lt (l := xs) (k := j) (by rw [HL.out]; exact hlt)
        obtain ⟨r0, r1⟩ := HCR.out x (mem_of_get hx)
        obtain ⟨i, hi⟩ := Int.eq_ofNat_of_zero_le r0
        have hi48 : i + 1 < 48 := by omega
        obtain ⟨va, hva⟩ := get_of_lt (l := lineTo xs (lineL 48) j) (k := i) (by rw [lineTo_len, lineL_len]; omega)
        obtain ⟨vb, hvb⟩ := get_of_lt (l := lineTo xs (lineL 48) j) (k := i + 1) (by rw [lineTo_len, lineL_len]; omega)
        have HS := Lib.hid (lineTo_next hx hi hva hvb)
        obtain ⟨ba, o, rfl, hba, c0, c1, c2, c3⟩ := (HX2.out.up hb) _ x hx
        rw [hi] at c1
        have jn : (j : Int) < (n : Int) := by omega
        obtain ⟨w5, hw5⟩ : ∃ w5, w5 = wo.alloc (.cells #[.int .i64 x.a, .int .i64 (i : Int), .int .i64 x.c, .int .i64 x.d] 83) := ⟨_, rfl⟩
        have hb5 : Below wo.heap.size wo w5 := by rw [hw5]; go_grown
        have K5 : Has w5 wo.heap.size 83 [.int .i64 x.a, .int .i64 (i : Int), .int .i64 x.c, .int .i64 x.d] := by rw [hw5]; exact Has.new rfl
        go_upto_region 8 with (fail)
        rw [← hw5]
        obtain ⟨gx, hgx⟩ : ∃ gx, gx = wo.heap.size := ⟨_, rfl⟩
        rw [← hgx] at K5 ⊢
        have k1 : w5.cell? ⟨gx, 1, none⟩ = some (.int .i64 (i : Int)) := K5.cell 1
        have qx := K5.lt
        have HG5 := Lib.hid (HG.out.below hb5 HG.out.lt)
        have HC5 := Lib.hid (HC.out.below hb5 HC.out.lt)
        have B5 := hb.trans (hb5.mono hz)
        have J := Lib.hid (swap65 gl i _ va vb w5 HG5.out hi48 (by rw [List.getElem?_map, hva]; rfl) (by rw [List.getElem?_map, hvb]; rfl))
        clear hx hi hva hvb r0 r1 c0 c1 c2 c3 hb5 hw5 K5 hgx HG HC hb
        go_wp2_with fail
        refine J.out.mono ?_
        rintro e' w6 ⟨⟨v, rfl⟩, hG6, hK, _⟩
        have hb6 := keepC_below hK (show gl ≤ gl from Nat.le_refl _) (Nat.le_of_lt HG5.out.lt)
        have B6 := B5.trans (hb6.mono (Nat.le_of_eq HGL.out.symm))
        have HC6 := Lib.hid (HC5.out.below hb6 hglw)
        have HG6 : Hid (Has w6 gl 109 ((lineTo xs (lineL 48) (j + 1)).map vInt)) := by
          show Has w6 gl 109 ((lineTo xs (lineL 48) (j + 1)).map vInt)
          rw [HS.out, List.map_set, List.map_set]; exact hG6
        clear hG6 hK hb6
        go_wp2
        go_roundw
        case rel => exact ⟨j + 1, by omega, by go_num, HG6, HC6, B6⟩
        case measure => first | (simp [intOf]; done) | (simp [intOf]; omega)
      · obtain rfl : n = j := by omega
        have a0 : wo.cell? ⟨w.heap.size, 0, none⟩ = some (.int .i64 (Tn : Int)) := HC.out.cell 0
        have q := HC.out.lt
        have qg := HG.out.lt
        have J := Lib.hid (clone48 (some ⟨gl, 0, none⟩) Tn 48 ((lineTo xs (lineL 48) n).take Tn) wo (rdI_take (rdI_hasC HG.out)) (by rw [List.length_take, lineTo_len, lineL_len]; omega) (by omega))
        have B7 := bvia B2 hb
        go_wp2_with fail
        refine J.out.mono ?_
        rintro e' w7 ⟨A7, n7, c7, rfl, r7, l7, hb7⟩
        have HR7 := Lib.hid r7; clear r7
        have hcc := own_caps HR7.out
        go_wp2
        go_ret2
        exact ⟨A7, n7, c7, rfl, own_rd1 HR7.out, l7, hcc.1, hcc.2, bvia B7 hb7⟩
  · have e2 : endsR t xs ps = [] := by unfold endsR; rw [if_neg hE]
    rw [e2]
    generalize ckE t xs ps = r at *
    have hr : (r != 0) = true := by simpa using hE
    clear hE e2
    go_enter Try.func53, Try.ntmps53
    go_wp2_with fail
    refine (C1.out _ (by go_grown)).mono ?_
    rintro e w1 ⟨rfl, hb1⟩
    have B1 := bvia (show Below w.heap.size w _ by go_grown) hb1
    clear K0 hb1 C1
    go_wp2
    go_ret2
    exact ⟨none, 0, 0, rfl, Rd1.nil _ _ _ _, rfl, Nat.le_refl _, by omega, B1⟩
end Go.Proofs.Ytdimfbmbomgiaaa
