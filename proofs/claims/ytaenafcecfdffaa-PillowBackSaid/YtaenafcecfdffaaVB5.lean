/-
  Contracts of chapter 16: the pillow's methods stick and cross.
-/
import Derived.Test.YtaenafcecfdffaaVB2
import Derived.Test.YtaenafcecfdffaaVB4
namespace Go.Proofs.Ytaenafcecfdffaa
open Go.RowKit
set_option maxRecDepth 100000 in
set_option maxHeartbeats 4000000 in
theorem stickC (B g : Nat) (p s : Int) (z : Pil) (S M V L X P : Value) (mid : Nat) (sew : Bool) (W : World) (h : PilH W B g p s z S M V L X P) (hm : mid + 1 < z.l.length) (hll : z.l.length ≤ 48) (hn : z.ps.length ≤ 1000000) :
    Calls Try.prog 35 #[.pointer (some ⟨g, 0, none⟩), .int .i64 (mid : Int), .bool sew] W fun e w' => (∃ v, e = .returned v) ∧ ∃ P', PilH w' B g p s (z.stick mid sew) S M V L X P' ∧ KeepB (fun r => r = g ∨ some r = P.ownBlock) W w' ∧ Grown g W [S, M, V, L, X, P] w' [S, M, V, L, X, P'] := by
  have o2 : W.ownsRow B 86 3 V z.works.length (wksCells z.works) := h.o 2 _ rfl
  have o5 : W.ownsRow B 91 6 P z.ps.length (pnsC z.ps) := h.o 5 _ rfl
  have o3 : W.ownsRow B 3 1 L z.l.length (z.l.map vInt) := h.o 3 _ rfl
  obtain ⟨VA, vc, rfl⟩ := own_form o2
  obtain ⟨PA, pc, rfl⟩ := own_form o5
  obtain ⟨LA, lc, rfl⟩ := own_form o3
  obtain ⟨la, hla⟩ := get_of_lt (l := z.l) (k := mid) (by omega)
  obtain ⟨lb, hlb⟩ := get_of_lt (l := z.l) (k := mid + 1) hm
  have HST : Hid (z.stick mid sew = { z with ps := z.ps ++ [⟨⟨(z.works.length : Int), (mid : Int), la, lb⟩, sew, false⟩] }) := by
    show _ = _
    unfold Pil.stick
    rw [List.getD_eq_getElem?_getD, List.getD_eq_getElem?_getD, hla, hlb]; rfl
  obtain ⟨bl, rfl, hB, hbl, y2⟩ := own_at o3 (j := mid) (u := .int .i64 la) (by rw [List.getElem?_map, hla]; rfl)
  obtain ⟨bl', e', _, _, y3⟩ := own_at o3 (j := mid + 1) (u := .int .i64 lb) (by rw [List.getElem?_map, hlb]; rfl)
  injection e' with e'
  injection e' with e'
  subst e'
  have y0 : W.drew.cell? ⟨g, 5, none⟩ = some (.slice VA z.works.length vc) := RowsH.cell h 5
  have y1 : W.drew.cell? ⟨g, 6, none⟩ = some (.slice (some ⟨bl, 0, none⟩) z.l.length lc) := RowsH.cell h 6
  have y4 : W.drew.cell? ⟨g, 8, none⟩ = some (.slice PA z.ps.length pc) := RowsH.cell h 8
  have i1 : IntKind.i64.wrap ((mid : Int) + 1) = (mid : Int) + 1 := IntWalk.i64_in _ (by omega)
  have i2 : ((mid : Int) + 1).toNat = mid + 1 := by omega
  have i3 : (0 : Int) ≤ (mid : Int) + 1 := by omega
  have i4 : (mid : Int) + 1 < (z.l.length : Int) := by omega
  have i5 : (mid : Int) < (z.l.length : Int) := by omega
  have i6 : mid < z.l.length := by omega
  clear hla hlb
  go_enter Try.func35, Try.ntmps35
  go_wp2
  refine wp_region_noPanic ?_
  refine wp_region_B (fun b w' => w'.cell? ⟨g, 5, none⟩ = some (.slice VA z.works.length vc) ∧ w'.cell? ⟨g, 6, none⟩ = some (.slice (some ⟨bl, 0, none⟩) z.l.length lc) ∧ w'.cell? ⟨bl, mid, none⟩ = some (.int .i64 la) ∧ w'.cell? ⟨bl, mid + 1, none⟩ = some (.int .i64 lb) ∧ (b = false → w'.cell? ⟨g, 8, none⟩ = some (.slice PA z.ps.length pc))) 33 (by kernel_rfl) ?_
  have hSS : (fun b w' => w'.cell? ⟨g, 5, none⟩ = some (.slice VA z.works.length vc) ∧ w'.cell? ⟨g, 6, none⟩ = some (.slice (some ⟨bl, 0, none⟩) z.l.length lc) ∧ w'.cell? ⟨bl, mid, none⟩ = some (.int .i64 la) ∧ w'.cell? ⟨bl, mid + 1, none⟩ = some (.int .i64 lb) ∧ (b = false → w'.cell? ⟨g, 8, none⟩ = some (.slice PA z.ps.length pc))) false (W.drew) := ⟨y0, y1, y2, y3, fun _ => y4⟩
  refine wpAnyB_take (i := 0) (oi := _) (v := ?vv1) (fun w' => w'.cell? ⟨g, 5, none⟩ = some (.slice VA z.works.length vc) ∧ w'.cell? ⟨g, 6, none⟩ = some (.slice (some ⟨bl, 0, none⟩) z.l.length lc) ∧ w'.cell? ⟨bl, mid, none⟩ = some (.int .i64 la) ∧ w'.cell? ⟨bl, mid + 1, none⟩ = some (.int .i64 lb)) rfl (by kernel_rfl) (by kernel_rfl) (by kernel_rfl) (by kernel_rfl) (by rfl) (fun _ h => ⟨h.1, h.2.1, h.2.2.1, h.2.2.2.1⟩) (.inl fun _ h => ⟨h.1, h.2.1, h.2.2.1, h.2.2.2.1⟩) (fun _ _ _ h => h) (.inl ⟨by rfl, ?hy1⟩) hSS ?_
  case hy1 =>
    intro w' hSw
    try dsimp only at hSw
    go_simp
    all_goals with_reducible rfl
  try simp only [Act.put, List.setIfInBounds_toArray]
  refine wpAnyB_take (i := 1) (oi := _) (v := ?vv2) (fun w' => w'.cell? ⟨g, 5, none⟩ = some (.slice VA z.works.length vc) ∧ w'.cell? ⟨g, 6, none⟩ = some (.slice (some ⟨bl, 0, none⟩) z.l.length lc) ∧ w'.cell? ⟨bl, mid, none⟩ = some (.int .i64 la) ∧ w'.cell? ⟨bl, mid + 1, none⟩ = some (.int .i64 lb)) rfl (by kernel_rfl) (by kernel_rfl) (by kernel_rfl) (by kernel_rfl) (by rfl) (fun _ h => ⟨h.1, h.2.1, h.2.2.1, h.2.2.2.1⟩) (.inl fun _ h => ⟨h.1, h.2.1, h.2.2.1, h.2.2.2.1⟩) (fun _ _ _ h => h) (.inl ⟨by rfl, ?hy2⟩) hSS ?_
  case hy2 =>
    intro w' hSw
    try dsimp only at hSw
    go_simp
    all_goals with_reducible rfl
  try simp only [Act.put]
  refine wpAnyB_take (i := 2) (oi := _) (v := ?vv3) (fun w' => w'.cell? ⟨g, 5, none⟩ = some (.slice VA z.works.length vc) ∧ w'.cell? ⟨g, 6, none⟩ = some (.slice (some ⟨bl, 0, none⟩) z.l.length lc) ∧ w'.cell? ⟨bl, mid, none⟩ = some (.int .i64 la) ∧ w'.cell? ⟨bl, mid + 1, none⟩ = some (.int .i64 lb)) rfl (by kernel_rfl) (by kernel_rfl) (by kernel_rfl) (by kernel_rfl) (by rfl) (fun _ h => ⟨h.1, h.2.1, h.2.2.1, h.2.2.2.1⟩) (.inl fun _ h => ⟨h.1, h.2.1, h.2.2.1, h.2.2.2.1⟩) (fun _ _ _ h => h) (.inl ⟨by rfl, ?hy3⟩) hSS ?_
  case hy3 =>
    intro w' hSw
    try dsimp only at hSw
    go_simp
    all_goals with_reducible rfl
  try simp only [Act.put]
  refine wpAnyB_take (i := 3) (oi := _) (v := ?vv4) (fun w' => w'.cell? ⟨g, 5, none⟩ = some (.slice VA z.works.length vc) ∧ w'.cell? ⟨g, 6, none⟩ = some (.slice (some ⟨bl, 0, none⟩) z.l.length lc) ∧ w'.cell? ⟨bl, mid, none⟩ = some (.int .i64 la) ∧ w'.cell? ⟨bl, mid + 1, none⟩ = some (.int .i64 lb)) rfl (by kernel_rfl) (by kernel_rfl) (by kernel_rfl) (by kernel_rfl) (by rfl) (fun _ h => ⟨h.1, h.2.1, h.2.2.1, h.2.2.2.1⟩) (.inl fun _ h => ⟨h.1, h.2.1, h.2.2.1, h.2.2.2.1⟩) (fun _ _ _ h => h) (.inl ⟨by rfl, ?hy4⟩) hSS ?_
  case hy4 =>
    intro w' hSw
    try dsimp only at hSw
    go_simp
    all_goals with_reducible rfl
  try simp only [Act.put]
  refine wpAnyB_take (i := 4) (oi := _) (v := ?vv5) (fun w' => w'.cell? ⟨g, 5, none⟩ = some (.slice VA z.works.length vc) ∧ w'.cell? ⟨g, 6, none⟩ = some (.slice (some ⟨bl, 0, none⟩) z.l.length lc) ∧ w'.cell? ⟨bl, mid, none⟩ = some (.int .i64 la) ∧ w'.cell? ⟨bl, mid + 1, none⟩ = some (.int .i64 lb) ∧ w'.cell? ⟨g, 8, none⟩ = some (.slice PA z.ps.length pc)) rfl (by kernel_rfl) (by kernel_rfl) (by kernel_rfl) (by kernel_rfl) (by rfl) (fun _ h => ⟨h.1, h.2.1, h.2.2.1, h.2.2.2.1, h.2.2.2.2 rfl⟩) (.inr (by kernel_rfl)) (fun _ _ _ h => h) (.inl ⟨by rfl, ?hy5⟩) hSS ?_
  case hy5 =>
    intro w' hSw
    try dsimp only at hSw
    go_simp
    all_goals with_reducible rfl
  try simp only [Act.put]
  refine wpAnyB_take (i := 5) (oi := _) (v := ?vv6) (fun w' => w'.cell? ⟨g, 5, none⟩ = some (.slice VA z.works.length vc) ∧ w'.cell? ⟨g, 6, none⟩ = some (.slice (some ⟨bl, 0, none⟩) z.l.length lc) ∧ w'.cell? ⟨bl, mid, none⟩ = some (.int .i64 la) ∧ w'.cell? ⟨bl, mid + 1, none⟩ = some (.int .i64 lb)) rfl (by kernel_rfl) (by kernel_rfl) (by kernel_rfl) (by kernel_rfl) (by rfl) (fun _ h => ⟨h.1, h.2.1, h.2.2.1, h.2.2.2.1⟩) (.inl fun _ h => ⟨h.1, h.2.1, h.2.2.1, h.2.2.2.1⟩) (fun _ _ _ h => h) (.inl ⟨by rfl, ?hy6⟩) hSS ?_
  case hy6 =>
    intro w' hSw
    try dsimp only at hSw
    go_simp
    all_goals with_reducible rfl
  try simp only [Act.put]
  refine wpAnyB_take (i := 6) (oi := _) (v := ?vv7) (fun w' => w'.cell? ⟨g, 5, none⟩ = some (.slice VA z.works.length vc) ∧ w'.cell? ⟨g, 6, none⟩ = some (.slice (some ⟨bl, 0, none⟩) z.l.length lc) ∧ w'.cell? ⟨bl, mid, none⟩ = some (.int .i64 la) ∧ w'.cell? ⟨bl, mid + 1, none⟩ = some (.int .i64 lb)) rfl (by kernel_rfl) (by kernel_rfl) (by kernel_rfl) (by kernel_rfl) (by rfl) (fun _ h => ⟨h.1, h.2.1, h.2.2.1, h.2.2.2.1⟩) (.inl fun _ h => ⟨h.1, h.2.1, h.2.2.1, h.2.2.2.1⟩) (fun _ _ _ h => h) (.inl ⟨by rfl, ?hy7⟩) hSS ?_
  case hy7 =>
    intro w' hSw
    try dsimp only at hSw
    go_simp
    all_goals with_reducible rfl
  try simp only [Act.put]
  refine wpAnyB_take (i := 7) (oi := _) (v := ?vv8) (fun w' => w'.cell? ⟨g, 5, none⟩ = some (.slice VA z.works.length vc) ∧ w'.cell? ⟨g, 6, none⟩ = some (.slice (some ⟨bl, 0, none⟩) z.l.length lc) ∧ w'.cell? ⟨bl, mid, none⟩ = some (.int .i64 la) ∧ w'.cell? ⟨bl, mid + 1, none⟩ = some (.int .i64 lb)) rfl (by kernel_rfl) (by kernel_rfl) (by kernel_rfl) (by kernel_rfl) (by rfl) (fun _ h => ⟨h.1, h.2.1, h.2.2.1, h.2.2.2.1⟩) (.inl fun _ h => ⟨h.1, h.2.1, h.2.2.1, h.2.2.2.1⟩) (fun _ _ _ h => h) (.inl ⟨by rfl, ?hy8⟩) hSS ?_
  case hy8 =>
    intro w' hSw
    try dsimp only at hSw
    go_simp
    all_goals with_reducible rfl
  try simp only [Act.put]
  refine wpAnyB_take (i := 8) (oi := _) (v := ?vv9) (fun w' => w'.cell? ⟨g, 5, none⟩ = some (.slice VA z.works.length vc) ∧ w'.cell? ⟨g, 6, none⟩ = some (.slice (some ⟨bl, 0, none⟩) z.l.length lc) ∧ w'.cell? ⟨bl, mid, none⟩ = some (.int .i64 la) ∧ w'.cell? ⟨bl, mid + 1, none⟩ = some (.int .i64 lb)) rfl (by kernel_rfl) (by kernel_rfl) (by kernel_rfl) (by kernel_rfl) (by rfl) (fun _ h => ⟨h.1, h.2.1, h.2.2.1, h.2.2.2.1⟩) (.inl fun _ h => ⟨h.1, h.2.1, h.2.2.1, h.2.2.2.1⟩) (fun _ _ _ h => h) (.inl ⟨by rfl, ?hy9⟩) hSS ?_
  case hy9 =>
    intro w' hSw
    try dsimp only at hSw
    go_simp
    all_goals with_reducible rfl
  try simp only [Act.put]
  refine wpAnyB_take (i := 9) (oi := _) (v := ?vv10) (fun w' => w'.cell? ⟨g, 5, none⟩ = some (.slice VA z.works.length vc) ∧ w'.cell? ⟨g, 6, none⟩ = some (.slice (some ⟨bl, 0, none⟩) z.l.length lc) ∧ w'.cell? ⟨bl, mid, none⟩ = some (.int .i64 la) ∧ w'.cell? ⟨bl, mid + 1, none⟩ = some (.int .i64 lb)) rfl (by kernel_rfl) (by kernel_rfl) (by kernel_rfl) (by kernel_rfl) (by rfl) (fun _ h => ⟨h.1, h.2.1, h.2.2.1, h.2.2.2.1⟩) (.inl fun _ h => ⟨h.1, h.2.1, h.2.2.1, h.2.2.2.1⟩) (fun _ _ _ h => h) (.inl ⟨by rfl, ?hy10⟩) hSS ?_
  case hy10 =>
    intro w' hSw
    try dsimp only at hSw
    go_simp
    all_goals with_reducible rfl
  try simp only [Act.put]
  refine wpAnyB_take (i := 10) (oi := _) (v := ?vv11) (fun w' => w'.cell? ⟨g, 5, none⟩ = some (.slice VA z.works.length vc) ∧ w'.cell? ⟨g, 6, none⟩ = some (.slice (some ⟨bl, 0, none⟩) z.l.length lc) ∧ w'.cell? ⟨bl, mid, none⟩ = some (.int .i64 la) ∧ w'.cell? ⟨bl, mid + 1, none⟩ = some (.int .i64 lb)) rfl (by kernel_rfl) (by kernel_rfl) (by kernel_rfl) (by kernel_rfl) (by rfl) (fun _ h => ⟨h.1, h.2.1, h.2.2.1, h.2.2.2.1⟩) (.inl fun _ h => ⟨h.1, h.2.1, h.2.2.1, h.2.2.2.1⟩) (fun _ _ _ h => h) (.inl ⟨by rfl, ?hy11⟩) hSS ?_
  case hy11 =>
    intro w' hSw
    try dsimp only at hSw
    go_simp
    all_goals with_reducible rfl
  try simp only [Act.put]
  refine wpAnyB_take (i := 11) (oi := _) (v := ?vv12) (fun w' => w'.cell? ⟨g, 5, none⟩ = some (.slice VA z.works.length vc) ∧ w'.cell? ⟨g, 6, none⟩ = some (.slice (some ⟨bl, 0, none⟩) z.l.length lc) ∧ w'.cell? ⟨bl, mid, none⟩ = some (.int .i64 la) ∧ w'.cell? ⟨bl, mid + 1, none⟩ = some (.int .i64 lb)) rfl (by kernel_rfl) (by kernel_rfl) (by kernel_rfl) (by kernel_rfl) (by rfl) (fun _ h => ⟨h.1, h.2.1, h.2.2.1, h.2.2.2.1⟩) (.inl fun _ h => ⟨h.1, h.2.1, h.2.2.1, h.2.2.2.1⟩) (fun _ _ _ h => h) (.inl ⟨by rfl, ?hy12⟩) hSS ?_
  case hy12 =>
    intro w' hSw
    try dsimp only at hSw
    go_simp
    all_goals with_reducible rfl
  try simp only [Act.put]
  refine wpAnyB_take (i := 12) (oi := _) (v := ?vv13) (fun w' => w'.cell? ⟨g, 5, none⟩ = some (.slice VA z.works.length vc) ∧ w'.cell? ⟨g, 6, none⟩ = some (.slice (some ⟨bl, 0, none⟩) z.l.length lc) ∧ w'.cell? ⟨bl, mid, none⟩ = some (.int .i64 la) ∧ w'.cell? ⟨bl, mid + 1, none⟩ = some (.int .i64 lb)) rfl (by kernel_rfl) (by kernel_rfl) (by kernel_rfl) (by kernel_rfl) (by rfl) (fun _ h => ⟨h.1, h.2.1, h.2.2.1, h.2.2.2.1⟩) (.inl fun _ h => ⟨h.1, h.2.1, h.2.2.1, h.2.2.2.1⟩) (fun _ _ _ h => h) (.inl ⟨by rfl, ?hy13⟩) hSS ?_
  case hy13 =>
    intro w' hSw
    try dsimp only at hSw
    go_simp
    all_goals with_reducible rfl
  try simp only [Act.put]
  refine wpAnyB_take (i := 13) (oi := _) (v := ?vv14) (fun w' => w'.cell? ⟨g, 5, none⟩ = some (.slice VA z.works.length vc) ∧ w'.cell? ⟨g, 6, none⟩ = some (.slice (some ⟨bl, 0, none⟩) z.l.length lc) ∧ w'.cell? ⟨bl, mid, none⟩ = some (.int .i64 la) ∧ w'.cell? ⟨bl, mid + 1, none⟩ = some (.int .i64 lb)) rfl (by kernel_rfl) (by kernel_rfl) (by kernel_rfl) (by kernel_rfl) (by rfl) (fun _ h => ⟨h.1, h.2.1, h.2.2.1, h.2.2.2.1⟩) (.inl fun _ h => ⟨h.1, h.2.1, h.2.2.1, h.2.2.2.1⟩) (fun _ _ _ h => h) (.inl ⟨by rfl, ?hy14⟩) hSS ?_
  case hy14 =>
    intro w' hSw
    try dsimp only at hSw
    go_simp
    all_goals with_reducible rfl
  try simp only [Act.put]
  refine wpAnyB_take (i := 14) (oi := _) (v := ?vv15) (fun w' => w'.cell? ⟨g, 5, none⟩ = some (.slice VA z.works.length vc) ∧ w'.cell? ⟨g, 6, none⟩ = some (.slice (some ⟨bl, 0, none⟩) z.l.length lc) ∧ w'.cell? ⟨bl, mid, none⟩ = some (.int .i64 la) ∧ w'.cell? ⟨bl, mid + 1, none⟩ = some (.int .i64 lb)) rfl (by kernel_rfl) (by kernel_rfl) (by kernel_rfl) (by kernel_rfl) (by rfl) (fun _ h => ⟨h.1, h.2.1, h.2.2.1, h.2.2.2.1⟩) (.inl fun _ h => ⟨h.1, h.2.1, h.2.2.1, h.2.2.2.1⟩) (fun _ _ _ h => h) (.inl ⟨by rfl, ?hy15⟩) hSS ?_
  case hy15 =>
    intro w' hSw
    try dsimp only at hSw
    go_simp
    all_goals with_reducible rfl
  try simp only [Act.put]
  refine wpAnyB_take (i := 15) (oi := _) (v := ?vv16) (fun w' => w'.cell? ⟨g, 5, none⟩ = some (.slice VA z.works.length vc) ∧ w'.cell? ⟨g, 6, none⟩ = some (.slice (some ⟨bl, 0, none⟩) z.l.length lc) ∧ w'.cell? ⟨bl, mid, none⟩ = some (.int .i64 la) ∧ w'.cell? ⟨bl, mid + 1, none⟩ = some (.int .i64 lb)) rfl (by kernel_rfl) (by kernel_rfl) (by kernel_rfl) (by kernel_rfl) (by rfl) (fun _ h => ⟨h.1, h.2.1, h.2.2.1, h.2.2.2.1⟩) (.inl fun _ h => ⟨h.1, h.2.1, h.2.2.1, h.2.2.2.1⟩) (fun _ _ _ h => h) (.inl ⟨by rfl, ?hy16⟩) hSS ?_
  case hy16 =>
    intro w' hSw
    try dsimp only at hSw
    go_simp
    all_goals with_reducible rfl
  try simp only [Act.put]
  refine wpAnyB_take (i := 16) (oi := _) (v := ?vv17) (fun w' => w'.cell? ⟨g, 5, none⟩ = some (.slice VA z.works.length vc) ∧ w'.cell? ⟨g, 6, none⟩ = some (.slice (some ⟨bl, 0, none⟩) z.l.length lc) ∧ w'.cell? ⟨bl, mid, none⟩ = some (.int .i64 la) ∧ w'.cell? ⟨bl, mid + 1, none⟩ = some (.int .i64 lb)) rfl (by kernel_rfl) (by kernel_rfl) (by kernel_rfl) (by kernel_rfl) (by rfl) (fun _ h => ⟨h.1, h.2.1, h.2.2.1, h.2.2.2.1⟩) (.inl fun _ h => ⟨h.1, h.2.1, h.2.2.1, h.2.2.2.1⟩) (fun _ _ _ h => h) (.inl ⟨by rfl, ?hy17⟩) hSS ?_
  case hy17 =>
    intro w' hSw
    try dsimp only at hSw
    go_simp
    all_goals with_reducible rfl
  try simp only [Act.put]
  refine wpAnyB_take (i := 17) (oi := _) (v := ?vv18) (fun w' => w'.cell? ⟨g, 5, none⟩ = some (.slice VA z.works.length vc) ∧ w'.cell? ⟨g, 6, none⟩ = some (.slice (some ⟨bl, 0, none⟩) z.l.length lc) ∧ w'.cell? ⟨bl, mid, none⟩ = some (.int .i64 la) ∧ w'.cell? ⟨bl, mid + 1, none⟩ = some (.int .i64 lb)) rfl (by kernel_rfl) (by kernel_rfl) (by kernel_rfl) (by kernel_rfl) (by rfl) (fun _ h => ⟨h.1, h.2.1, h.2.2.1, h.2.2.2.1⟩) (.inl fun _ h => ⟨h.1, h.2.1, h.2.2.1, h.2.2.2.1⟩) (fun _ _ _ h => h) (.inl ⟨by rfl, ?hy18⟩) hSS ?_
  case hy18 =>
    intro w' hSw
    try dsimp only at hSw
    go_simp
    all_goals with_reducible rfl
  try simp only [Act.put]
  refine wpAnyB_take (i := 18) (oi := _) (v := ?vv19) (fun w' => w'.cell? ⟨g, 5, none⟩ = some (.slice VA z.works.length vc) ∧ w'.cell? ⟨g, 6, none⟩ = some (.slice (some ⟨bl, 0, none⟩) z.l.length lc) ∧ w'.cell? ⟨bl, mid, none⟩ = some (.int .i64 la) ∧ w'.cell? ⟨bl, mid + 1, none⟩ = some (.int .i64 lb)) rfl (by kernel_rfl) (by kernel_rfl) (by kernel_rfl) (by kernel_rfl) (by rfl) (fun _ h => ⟨h.1, h.2.1, h.2.2.1, h.2.2.2.1⟩) (.inl fun _ h => ⟨h.1, h.2.1, h.2.2.1, h.2.2.2.1⟩) (fun _ _ _ h => h) (.inl ⟨by rfl, ?hy19⟩) hSS ?_
  case hy19 =>
    intro w' hSw
    try dsimp only at hSw
    go_simp
    all_goals with_reducible rfl
  try simp only [Act.put]
  refine wpAnyB_take (i := 19) (oi := _) (v := ?vv20) (fun w' => w'.cell? ⟨g, 5, none⟩ = some (.slice VA z.works.length vc) ∧ w'.cell? ⟨g, 6, none⟩ = some (.slice (some ⟨bl, 0, none⟩) z.l.length lc) ∧ w'.cell? ⟨bl, mid, none⟩ = some (.int .i64 la) ∧ w'.cell? ⟨bl, mid + 1, none⟩ = some (.int .i64 lb)) rfl (by kernel_rfl) (by kernel_rfl) (by kernel_rfl) (by kernel_rfl) (by rfl) (fun _ h => ⟨h.1, h.2.1, h.2.2.1, h.2.2.2.1⟩) (.inl fun _ h => ⟨h.1, h.2.1, h.2.2.1, h.2.2.2.1⟩) (fun _ _ _ h => h) (.inl ⟨by rfl, ?hy20⟩) hSS ?_
  case hy20 =>
    intro w' hSw
    try dsimp only at hSw
    go_simp
    all_goals with_reducible rfl
  try simp only [Act.put]
  refine wpAnyB_take (i := 20) (oi := _) (v := ?vv21) (fun w' => w'.cell? ⟨g, 5, none⟩ = some (.slice VA z.works.length vc) ∧ w'.cell? ⟨g, 6, none⟩ = some (.slice (some ⟨bl, 0, none⟩) z.l.length lc) ∧ w'.cell? ⟨bl, mid, none⟩ = some (.int .i64 la) ∧ w'.cell? ⟨bl, mid + 1, none⟩ = some (.int .i64 lb)) rfl (by kernel_rfl) (by kernel_rfl) (by kernel_rfl) (by kernel_rfl) (by rfl) (fun _ h => ⟨h.1, h.2.1, h.2.2.1, h.2.2.2.1⟩) (.inl fun _ h => ⟨h.1, h.2.1, h.2.2.1, h.2.2.2.1⟩) (fun _ _ _ h => h) (.inl ⟨by rfl, ?hy21⟩) hSS ?_
  case hy21 =>
    intro w' hSw
    try dsimp only at hSw
    go_simp
    all_goals with_reducible rfl
  try simp only [Act.put]
  refine wpAnyB_take (i := 21) (oi := _) (v := ?vv22) (fun w' => w'.cell? ⟨g, 5, none⟩ = some (.slice VA z.works.length vc) ∧ w'.cell? ⟨g, 6, none⟩ = some (.slice (some ⟨bl, 0, none⟩) z.l.length lc) ∧ w'.cell? ⟨bl, mid, none⟩ = some (.int .i64 la) ∧ w'.cell? ⟨bl, mid + 1, none⟩ = some (.int .i64 lb)) rfl (by kernel_rfl) (by kernel_rfl) (by kernel_rfl) (by kernel_rfl) (by rfl) (fun _ h => ⟨h.1, h.2.1, h.2.2.1, h.2.2.2.1⟩) (.inl fun _ h => ⟨h.1, h.2.1, h.2.2.1, h.2.2.2.1⟩) (fun _ _ _ h => h) (.inl ⟨by rfl, ?hy22⟩) hSS ?_
  case hy22 =>
    intro w' hSw
    try dsimp only at hSw
    go_simp
    all_goals with_reducible rfl
  try simp only [Act.put]
  refine wpAnyB_take (i := 22) (oi := _) (v := ?vv23) (fun w' => w'.cell? ⟨g, 5, none⟩ = some (.slice VA z.works.length vc) ∧ w'.cell? ⟨g, 6, none⟩ = some (.slice (some ⟨bl, 0, none⟩) z.l.length lc) ∧ w'.cell? ⟨bl, mid, none⟩ = some (.int .i64 la) ∧ w'.cell? ⟨bl, mid + 1, none⟩ = some (.int .i64 lb)) rfl (by kernel_rfl) (by kernel_rfl) (by kernel_rfl) (by kernel_rfl) (by rfl) (fun _ h => ⟨h.1, h.2.1, h.2.2.1, h.2.2.2.1⟩) (.inl fun _ h => ⟨h.1, h.2.1, h.2.2.1, h.2.2.2.1⟩) (fun _ _ _ h => h) (.inl ⟨by rfl, ?hy23⟩) hSS ?_
  case hy23 =>
    intro w' hSw
    try dsimp only at hSw
    go_simp
    all_goals with_reducible rfl
  try simp only [Act.put]
  refine wpAnyB_take (i := 23) (oi := _) (v := ?vv24) (fun w' => w'.cell? ⟨g, 5, none⟩ = some (.slice VA z.works.length vc) ∧ w'.cell? ⟨g, 6, none⟩ = some (.slice (some ⟨bl, 0, none⟩) z.l.length lc) ∧ w'.cell? ⟨bl, mid, none⟩ = some (.int .i64 la) ∧ w'.cell? ⟨bl, mid + 1, none⟩ = some (.int .i64 lb)) rfl (by kernel_rfl) (by kernel_rfl) (by kernel_rfl) (by kernel_rfl) (by rfl) (fun _ h => ⟨h.1, h.2.1, h.2.2.1, h.2.2.2.1⟩) (.inl fun _ h => ⟨h.1, h.2.1, h.2.2.1, h.2.2.2.1⟩) (fun _ _ _ h => h) (.inl ⟨by rfl, ?hy24⟩) hSS ?_
  case hy24 =>
    intro w' hSw
    try dsimp only at hSw
    go_simp
    all_goals with_reducible rfl
  try simp only [Act.put]
  refine wpAnyB_take (i := 24) (oi := _) (v := ?vv25) (fun w' => w'.cell? ⟨g, 5, none⟩ = some (.slice VA z.works.length vc) ∧ w'.cell? ⟨g, 6, none⟩ = some (.slice (some ⟨bl, 0, none⟩) z.l.length lc) ∧ w'.cell? ⟨bl, mid, none⟩ = some (.int .i64 la) ∧ w'.cell? ⟨bl, mid + 1, none⟩ = some (.int .i64 lb)) rfl (by kernel_rfl) (by kernel_rfl) (by kernel_rfl) (by kernel_rfl) (by rfl) (fun _ h => ⟨h.1, h.2.1, h.2.2.1, h.2.2.2.1⟩) (.inl fun _ h => ⟨h.1, h.2.1, h.2.2.1, h.2.2.2.1⟩) (fun _ _ _ h => h) (.inl ⟨by rfl, ?hy25⟩) hSS ?_
  case hy25 =>
    intro w' hSw
    try dsimp only at hSw
    go_simp
    all_goals with_reducible rfl
  try simp only [Act.put]
  refine wpAnyB_take (i := 25) (oi := _) (v := ?vv26) (fun w' => w'.cell? ⟨g, 5, none⟩ = some (.slice VA z.works.length vc) ∧ w'.cell? ⟨g, 6, none⟩ = some (.slice (some ⟨bl, 0, none⟩) z.l.length lc) ∧ w'.cell? ⟨bl, mid, none⟩ = some (.int .i64 la) ∧ w'.cell? ⟨bl, mid + 1, none⟩ = some (.int .i64 lb)) rfl (by kernel_rfl) (by kernel_rfl) (by kernel_rfl) (by kernel_rfl) (by rfl) (fun _ h => ⟨h.1, h.2.1, h.2.2.1, h.2.2.2.1⟩) (.inl fun _ h => ⟨h.1, h.2.1, h.2.2.1, h.2.2.2.1⟩) (fun _ _ _ h => h) (.inl ⟨by rfl, ?hy26⟩) hSS ?_
  case hy26 =>
    intro w' hSw
    try dsimp only at hSw
    go_simp
    all_goals with_reducible rfl
  try simp only [Act.put]
  refine wpAnyB_take (i := 26) (oi := _) (v := ?vv27) (fun w' => w'.cell? ⟨g, 5, none⟩ = some (.slice VA z.works.length vc) ∧ w'.cell? ⟨g, 6, none⟩ = some (.slice (some ⟨bl, 0, none⟩) z.l.length lc) ∧ w'.cell? ⟨bl, mid, none⟩ = some (.int .i64 la) ∧ w'.cell? ⟨bl, mid + 1, none⟩ = some (.int .i64 lb)) rfl (by kernel_rfl) (by kernel_rfl) (by kernel_rfl) (by kernel_rfl) (by rfl) (fun _ h => ⟨h.1, h.2.1, h.2.2.1, h.2.2.2.1⟩) (.inl fun _ h => ⟨h.1, h.2.1, h.2.2.1, h.2.2.2.1⟩) (fun _ _ _ h => h) (.inl ⟨by rfl, ?hy27⟩) hSS ?_
  case hy27 =>
    intro w' hSw
    try dsimp only at hSw
    go_simp
    all_goals with_reducible rfl
  try simp only [Act.put]
  refine wpAnyB_take (i := 27) (oi := _) (v := ?vv28) (fun w' => w'.cell? ⟨g, 5, none⟩ = some (.slice VA z.works.length vc) ∧ w'.cell? ⟨g, 6, none⟩ = some (.slice (some ⟨bl, 0, none⟩) z.l.length lc) ∧ w'.cell? ⟨bl, mid, none⟩ = some (.int .i64 la) ∧ w'.cell? ⟨bl, mid + 1, none⟩ = some (.int .i64 lb)) rfl (by kernel_rfl) (by kernel_rfl) (by kernel_rfl) (by kernel_rfl) (by rfl) (fun _ h => ⟨h.1, h.2.1, h.2.2.1, h.2.2.2.1⟩) (.inl fun _ h => ⟨h.1, h.2.1, h.2.2.1, h.2.2.2.1⟩) (fun _ _ _ h => h) (.inl ⟨by rfl, ?hy28⟩) hSS ?_
  case hy28 =>
    intro w' hSw
    try dsimp only at hSw
    go_simp
    all_goals with_reducible rfl
  try simp only [Act.put]
  refine wpAnyB_take (i := 28) (oi := _) (v := ?vv29) (fun w' => w'.cell? ⟨g, 5, none⟩ = some (.slice VA z.works.length vc) ∧ w'.cell? ⟨g, 6, none⟩ = some (.slice (some ⟨bl, 0, none⟩) z.l.length lc) ∧ w'.cell? ⟨bl, mid, none⟩ = some (.int .i64 la) ∧ w'.cell? ⟨bl, mid + 1, none⟩ = some (.int .i64 lb)) rfl (by kernel_rfl) (by kernel_rfl) (by kernel_rfl) (by kernel_rfl) (by rfl) (fun _ h => ⟨h.1, h.2.1, h.2.2.1, h.2.2.2.1⟩) (.inl fun _ h => ⟨h.1, h.2.1, h.2.2.1, h.2.2.2.1⟩) (fun _ _ _ h => h) (.inl ⟨by rfl, ?hy29⟩) hSS ?_
  case hy29 =>
    intro w' hSw
    try dsimp only at hSw
    go_simp
    all_goals with_reducible rfl
  try simp only [Act.put]
  refine wpAnyB_one (i := 29) false rfl (by kernel_rfl) (by kernel_rfl) ?_
  intro KK hKK
  go_simp
  have h2 : PilH (W.alloc (.cells #[.int .i64 (z.works.length : Int), .int .i64 (mid : Int), .int .i64 la, .int .i64 lb, .bool sew, .bool false] 91)).drew B g p s z S M (.slice VA z.works.length vc) (.slice (some ⟨bl, 0, none⟩) z.l.length lc) X (.slice PA z.ps.length pc) := (RowsH.below h ((Below.refl _ W).alloc (Nat.le_refl _) (.cells #[.int .i64 (z.works.length : Int), .int .i64 (mid : Int), .int .i64 la, .int .i64 lb, .bool sew, .bool false] 91))).drew
  have hn2 : ∀ p u, ([.int .i64 (z.works.length : Int), .int .i64 (mid : Int), .int .i64 la, .int .i64 lb, .bool sew, .bool false] : List Value)[p]? = some u → (W.alloc (.cells #[.int .i64 (z.works.length : Int), .int .i64 (mid : Int), .int .i64 la, .int .i64 lb, .bool sew, .bool false] 91)).drew.cell? ⟨W.heap.size, p, none⟩ = some u := fun p u hu => ((Has.new (w := W) (t := 91) (cs := [.int .i64 (z.works.length : Int), .int .i64 (mid : Int), .int .i64 la, .int .i64 lb, .bool sew, .bool false]) rfl).drew.cell p).trans hu
  have x2 : (W.alloc (.cells #[.int .i64 (z.works.length : Int), .int .i64 (mid : Int), .int .i64 la, .int .i64 lb, .bool sew, .bool false] 91)).drew.cell? ⟨bl, mid, none⟩ = some (.int .i64 la) := (Below.cell ((Below.refl W.heap.size W).alloc (Nat.le_refl _) (.cells #[.int .i64 (z.works.length : Int), .int .i64 (mid : Int), .int .i64 la, .int .i64 lb, .bool sew, .bool false] 91)).drew (p := ⟨bl, mid, none⟩) hbl).trans y2
  have x3 : (W.alloc (.cells #[.int .i64 (z.works.length : Int), .int .i64 (mid : Int), .int .i64 la, .int .i64 lb, .bool sew, .bool false] 91)).drew.cell? ⟨bl, mid + 1, none⟩ = some (.int .i64 lb) := (Below.cell ((Below.refl W.heap.size W).alloc (Nat.le_refl _) (.cells #[.int .i64 (z.works.length : Int), .int .i64 (mid : Int), .int .i64 la, .int .i64 lb, .bool sew, .bool false] 91)).drew (p := ⟨bl, mid + 1, none⟩) hbl).trans y3
  have z2 : W.heap.size ≤ (W.alloc (.cells #[.int .i64 (z.works.length : Int), .int .i64 (mid : Int), .int .i64 la, .int .i64 lb, .bool sew, .bool false] 91)).drew.heap.size := by show _ ≤ (W.alloc (.cells #[.int .i64 (z.works.length : Int), .int .i64 (mid : Int), .int .i64 la, .int .i64 lb, .bool sew, .bool false] 91)).heap.size; simp
  have B2 := ((Below.refl _ W).alloc (Nat.le_refl _) (.cells #[.int .i64 (z.works.length : Int), .int .i64 (mid : Int), .int .i64 la, .int .i64 lb, .bool sew, .bool false] 91)).drew
  generalize (W.alloc (.cells #[.int .i64 (z.works.length : Int), .int .i64 (mid : Int), .int .i64 la, .int .i64 lb, .bool sew, .bool false] 91)).drew = W2 at *
  refine hKK.out _ _ ⟨RowsH.cell h2 5, RowsH.cell h2 6, x2, x3, fun _ => RowsH.cell h2 8⟩ ?_
  clear hKK KK
  try simp only [Act.put, List.setIfInBounds_toArray, List.set_cons_zero, List.set_cons_succ]
  refine wpAnyB_one (i := 30) false rfl (by kernel_rfl) (by kernel_rfl) ?_
  intro KK hKK
  refine step_appN rfl (.tmp 10) (.tmp 35) 79 rfl B 91 (.agg #[.int .i64 0, .int .i64 0, .int .i64 0, .int .i64 0, .bool false, .bool false]) 6 40 Try.underlying79 infoPin rfl (by omega) (by omega) (.slice PA z.ps.length pc) z.ps.length (pnsC z.ps) rfl (h2.o 5 _ rfl) ⟨W.heap.size, 0, none⟩ 1 1 [.int .i64 (z.works.length : Int), .int .i64 (mid : Int), .int .i64 la, .int .i64 lb, .bool sew, .bool false] rfl rfl (fun j u hu => by rw [Addr.add_lit, Nat.zero_add]; exact hn2 j u hu) (by simp [Value.oneCell']) (by omega) h2.z ?_
  intro v' w4 hown4 hgrow4 hnil4 hor4
  obtain ⟨A4, c4, rfl⟩ := own_form hown4
  have h4c : Has w4 g 81 _ := h2.c.same (hgrow4.block _ h2.c.lt (fun e => h2.ne (i := 5) rfl e.symm))
  have hbl2 : bl < W2.heap.size := by omega
  have hnb : some bl ≠ (Value.slice PA z.ps.length pc).ownBlock := fun e => h2.apart (i := 5) (j := 3) rfl rfl (by decide) (b := bl) e.symm rfl
  have x4 : w4.cell? ⟨bl, mid, none⟩ = some (.int .i64 la) := hgrow4.cell x2 hnb
  have x5 : w4.cell? ⟨bl, mid + 1, none⟩ = some (.int .i64 lb) := hgrow4.cell x3 hnb
  refine hKK.out _ _ ⟨h4c.cell 5, h4c.cell 6, x4, x5, fun _ => h4c.cell 8⟩ ?_
  clear hKK KK
  try simp only [Act.put, List.setIfInBounds_toArray]
  refine wpAnyB_take (i := 31) (oi := _) (v := ?vv30) (fun w' => w'.cell? ⟨g, 5, none⟩ = some (.slice VA z.works.length vc) ∧ w'.cell? ⟨g, 6, none⟩ = some (.slice (some ⟨bl, 0, none⟩) z.l.length lc) ∧ w'.cell? ⟨bl, mid, none⟩ = some (.int .i64 la) ∧ w'.cell? ⟨bl, mid + 1, none⟩ = some (.int .i64 lb)) rfl (by kernel_rfl) (by kernel_rfl) (by kernel_rfl) (by kernel_rfl) (by rfl) (fun _ h => ⟨h.1, h.2.1, h.2.2.1, h.2.2.2.1⟩) (.inl fun _ h => ⟨h.1, h.2.1, h.2.2.1, h.2.2.2.1⟩) (fun _ _ _ h => h) (.inl ⟨by rfl, ?hy30⟩) ⟨h4c.cell 5, h4c.cell 6, x4, x5, fun _ => h4c.cell 8⟩ ?_
  case hy30 =>
    intro w' hSw
    try dsimp only at hSw
    go_simp
    all_goals with_reducible rfl
  try simp only [Act.put]
  refine wpAnyB_take (i := 32) (oi := _) (v := ?vv31) (fun w' => w'.cell? ⟨g, 5, none⟩ = some (.slice VA z.works.length vc) ∧ w'.cell? ⟨g, 6, none⟩ = some (.slice (some ⟨bl, 0, none⟩) z.l.length lc) ∧ w'.cell? ⟨bl, mid, none⟩ = some (.int .i64 la) ∧ w'.cell? ⟨bl, mid + 1, none⟩ = some (.int .i64 lb)) rfl (by kernel_rfl) (by kernel_rfl) (by kernel_rfl) (by kernel_rfl) (by rfl) (fun _ h => ⟨h.1, h.2.1, h.2.2.1, h.2.2.2.1⟩) (.inl fun _ h => ⟨h.1, h.2.1, h.2.2.1, h.2.2.2.1⟩) (fun _ _ _ h => h) (.inl ⟨by rfl, ?hy31⟩) ⟨h4c.cell 5, h4c.cell 6, x4, x5, fun _ => h4c.cell 8⟩ ?_
  case hy31 =>
    intro w' hSw
    try dsimp only at hSw
    go_simp
    all_goals with_reducible rfl
  try simp only [Act.put]
  refine wpAnyB_one (i := 33) true rfl (by kernel_rfl) (by kernel_rfl) ?_
  intro KK hKK
  have f4 := h4c.free 8
  have q4 := h4c.lt
  have s4 : w4.cell? ⟨g, 8, none⟩ = some (.slice PA z.ps.length pc) := h4c.cell 8
  have ngl : bl ≠ g := fun e => h2.ne (i := 3) rfl (by rw [← e]; rfl)
  go_simp
  refine hKK.out _ _ ⟨(h4c.set 8 (.slice A4 (z.ps.length + 1) c4)).cell 5, (h4c.set 8 (.slice A4 (z.ps.length + 1) c4)).cell 6, (World.cell?_setCell_other _ _ _ _ (by simp)).trans x4, (World.cell?_setCell_other _ _ _ _ (by simp)).trans x5, fun hh => by cases hh⟩ ?_
  clear hKK KK
  try simp only [Act.put, List.setIfInBounds_toArray, List.set_cons_zero, List.set_cons_succ]
  refine wpAnyB_done (by kernel_rfl) (NoPanic.normal ?_) _
  have h5 : PilH (w4.setCell ⟨g, 8, none⟩ (.slice A4 (z.ps.length + 1) c4)) B g p s (z.stick mid sew) S M (.slice VA z.works.length vc) (.slice (some ⟨bl, 0, none⟩) z.l.length lc) X (.slice A4 (z.ps.length + 1) c4) := by
    have h6 := RowsH.grow h2 (i := 5) rfl hgrow4 hown4 8 rfl
    rw [HST.out]
    unfold PilH pilRows
    rw [List.length_append, pnsC_app]
    exact h6
  have k5 : KeepB (fun r => r = g ∨ some r = (Value.slice PA z.ps.length pc).ownBlock) W (w4.setCell ⟨g, 8, none⟩ (.slice A4 (z.ps.length + 1) c4)) := ((KeepB.of_below B2).trans (KeepB.grown hgrow4 (fun r hr => .inr hr))).trans (KeepB.set _ (.inl rfl) 8 (.slice A4 (z.ps.length + 1) c4))
  have g5 : Grown g W _ (w4.setCell ⟨g, 8, none⟩ (.slice A4 (z.ps.length + 1) c4)) _ := (Grown.below (g := g) (vs := [S, M, .slice VA z.works.length vc, .slice (some ⟨bl, 0, none⟩) z.l.length lc, X, .slice PA z.ps.length pc]) B2).trans (Grown.grow (i := 5) rfl hgrow4 hor4 8)
  go_end0
  refine ⟨⟨_, rfl⟩, .slice A4 (z.ps.length + 1) c4, ?_, ?_, ?_⟩
  · first | exact h5 | exact RowsH.drew h5
  · first | exact k5 | exact k5.drew
  · first | exact g5 | exact g5.drew
set_option maxRecDepth 100000 in
set_option maxHeartbeats 4000000 in
theorem crossC (B g : Nat) (p s : Int) (z : Pil) (S M V L X P : Value) (t : Nat) (left : Bool) (W : World) (h : PilH W B g p s z S M V L X P) (hm : t + 1 < z.l.length) (hll : z.l.length ≤ 48) (hn : z.xs.length ≤ 1000000) :
    Calls Try.prog 37 #[.pointer (some ⟨g, 0, none⟩), .int .i64 (t : Int), .bool left] W fun e w' => (∃ v, e = .returned v) ∧ ∃ X', PilH w' B g p s (z.cross t left) S M V L X' P ∧ KeepB (fun r => r = g ∨ some r = L.ownBlock ∨ some r = X.ownBlock) W w' ∧ Grown g W [S, M, V, L, X, P] w' [S, M, V, L, X', P] := by
  have o2 : W.ownsRow B 86 3 V z.works.length (wksCells z.works) := h.o 2 _ rfl
  have o5 : W.ownsRow B 47 4 X z.xs.length (qsC z.xs) := h.o 4 _ rfl
  have o3 : W.ownsRow B 3 1 L z.l.length (z.l.map vInt) := h.o 3 _ rfl
  obtain ⟨VA, vc, rfl⟩ := own_form o2
  obtain ⟨XA, xc, rfl⟩ := own_form o5
  obtain ⟨LA, lc, rfl⟩ := own_form o3
  obtain ⟨la, hla⟩ := get_of_lt (l := z.l) (k := t) (by omega)
  obtain ⟨lb, hlb⟩ := get_of_lt (l := z.l) (k := t + 1) hm
  have HST : Hid (∀ left, z.cross t left = { z with l := (z.l.set t lb).set (t + 1) la, xs := z.xs ++ [if left then ⟨(z.works.length : Int), (t : Int), la, lb⟩ else ⟨(z.works.length : Int), (t : Int), lb, la⟩] }) := by
    show ∀ left, _ = _
    intro left
    unfold Pil.cross
    rw [List.getD_eq_getElem?_getD, List.getD_eq_getElem?_getD, hla, hlb]; rfl
  obtain ⟨bl, rfl, hB, hbl, y2⟩ := own_at o3 (j := t) (u := .int .i64 la) (by rw [List.getElem?_map, hla]; rfl)
  obtain ⟨bl', e', _, _, y3⟩ := own_at o3 (j := t + 1) (u := .int .i64 lb) (by rw [List.getElem?_map, hlb]; rfl)
  injection e' with e'
  injection e' with e'
  subst e'
  have y1 : W.cell? ⟨g, 6, none⟩ = some (.slice (some ⟨bl, 0, none⟩) z.l.length lc) := RowsH.cell h 6
  have i1 : IntKind.i64.wrap ((t : Int) + 1) = (t : Int) + 1 := IntWalk.i64_in _ (by omega)
  have i2 : ((t : Int) + 1).toNat = t + 1 := by omega
  have i3 : (0 : Int) ≤ (t : Int) + 1 := by omega
  have i4 : (t : Int) + 1 < (z.l.length : Int) := by omega
  have i5 : (t : Int) < (z.l.length : Int) := by omega
  have i6 : t < z.l.length := by omega
  have fz := fun j => o3.frozenAt j
  have f0 := fz t
  have f1 := fz (t + 1)
  clear hla hlb
  go_enter Try.func37, Try.ntmps37
  go_wp2
  go_big_quiet (fail)
  go_wp2
  have ngl : bl ≠ g := fun e => h.ne (i := 3) rfl (by rw [← e]; rfl)
  have ngl2 : g ≠ bl := fun e => ngl e.symm
  have qg := h.c.lt
  go_region
  have h1 : PilH (((W.drewN (nq + 1)).setCell ⟨bl, t, none⟩ (.int .i64 lb)).setCell ⟨bl, t + 1, none⟩ (.int .i64 la)) B g p s { z with l := (z.l.set t lb).set (t + 1) la } S M (.slice VA z.works.length vc) (.slice (some ⟨bl, 0, none⟩) z.l.length lc) (.slice XA z.xs.length xc) P := by
    have h2 := RowsH.stored (RowsH.stored (RowsH.drewN h (nq + 1)) (i := 3) rfl (b := bl) (cap := lc) rfl t (.int .i64 lb)) (i := 3) rfl (b := bl) (cap := lc) rfl (t + 1) (.int .i64 la)
    unfold PilH pilRows
    simp only [List.length_set, List.map_set]
    exact h2
  have k1 : KeepB (fun r => r = g ∨ some r = (Value.slice (some ⟨bl, 0, none⟩) z.l.length lc).ownBlock ∨ some r = (Value.slice XA z.xs.length xc).ownBlock) W (((W.drewN (nq + 1)).setCell ⟨bl, t, none⟩ (.int .i64 lb)).setCell ⟨bl, t + 1, none⟩ (.int .i64 la)) :=
    (((KeepB.refl _ W).drewN (nq + 1)).trans (KeepB.set _ (.inr (.inl rfl)) t (.int .i64 lb))).trans (KeepB.set _ (.inr (.inl rfl)) (t + 1) (.int .i64 la))
  have g1 : Grown g W [S, M, .slice VA z.works.length vc, .slice (some ⟨bl, 0, none⟩) z.l.length lc, .slice XA z.xs.length xc, P] (((W.drewN (nq + 1)).setCell ⟨bl, t, none⟩ (.int .i64 lb)).setCell ⟨bl, t + 1, none⟩ (.int .i64 la)) [S, M, .slice VA z.works.length vc, .slice (some ⟨bl, 0, none⟩) z.l.length lc, .slice XA z.xs.length xc, P] :=
    ((Grown.drewN (nq + 1)).trans (Grown.cells (b := bl) (.inr ⟨.slice (some ⟨bl, 0, none⟩) z.l.length lc, by simp, rfl⟩) t (.int .i64 lb))).trans (Grown.cells (b := bl) (.inr ⟨.slice (some ⟨bl, 0, none⟩) z.l.length lc, by simp, rfl⟩) (t + 1) (.int .i64 la))
  generalize (((W.drewN (nq + 1)).setCell ⟨bl, t, none⟩ (.int .i64 lb)).setCell ⟨bl, t + 1, none⟩ (.int .i64 la)) = W1 at *
  cases left with
  | true =>
    go_wp2
    refine wp_region_noPanic ?_
    refine wp_region_B (fun b w' => w'.cell? ⟨g, 5, none⟩ = some (.slice VA z.works.length vc) ∧ (b = false → w'.cell? ⟨g, 7, none⟩ = some (.slice XA z.xs.length xc))) 18 (by kernel_rfl) ?_
    have hSSa : (fun b w' => w'.cell? ⟨g, 5, none⟩ = some (.slice VA z.works.length vc) ∧ (b = false → w'.cell? ⟨g, 7, none⟩ = some (.slice XA z.xs.length xc))) false (W1.drew) := ⟨RowsH.cell h1 5, fun _ => RowsH.cell h1 7⟩
    refine wpAnyB_take (i := 0) (oi := _) (v := ?vva1) (fun w' => w'.cell? ⟨g, 5, none⟩ = some (.slice VA z.works.length vc)) rfl (by kernel_rfl) (by kernel_rfl) (by kernel_rfl) (by kernel_rfl) (by rfl) (fun _ h => h.1) (.inl fun _ h => h.1) (fun _ _ _ h => h) (.inl ⟨by rfl, ?hya1⟩) hSSa ?_
    case hya1 =>
      intro w' hSw
      try dsimp only at hSw
      go_simp
      all_goals with_reducible rfl
    try simp only [Act.put, List.setIfInBounds_toArray]
    refine wpAnyB_take (i := 1) (oi := _) (v := ?vva2) (fun w' => w'.cell? ⟨g, 5, none⟩ = some (.slice VA z.works.length vc)) rfl (by kernel_rfl) (by kernel_rfl) (by kernel_rfl) (by kernel_rfl) (by rfl) (fun _ h => h.1) (.inl fun _ h => h.1) (fun _ _ _ h => h) (.inl ⟨by rfl, ?hya2⟩) hSSa ?_
    case hya2 =>
      intro w' hSw
      try dsimp only at hSw
      go_simp
      all_goals with_reducible rfl
    try simp only [Act.put]
    refine wpAnyB_take (i := 2) (oi := _) (v := ?vva3) (fun w' => w'.cell? ⟨g, 5, none⟩ = some (.slice VA z.works.length vc)) rfl (by kernel_rfl) (by kernel_rfl) (by kernel_rfl) (by kernel_rfl) (by rfl) (fun _ h => h.1) (.inl fun _ h => h.1) (fun _ _ _ h => h) (.inl ⟨by rfl, ?hya3⟩) hSSa ?_
    case hya3 =>
      intro w' hSw
      try dsimp only at hSw
      go_simp
      all_goals with_reducible rfl
    try simp only [Act.put]
    refine wpAnyB_take (i := 3) (oi := _) (v := ?vva4) (fun w' => w'.cell? ⟨g, 5, none⟩ = some (.slice VA z.works.length vc)) rfl (by kernel_rfl) (by kernel_rfl) (by kernel_rfl) (by kernel_rfl) (by rfl) (fun _ h => h.1) (.inl fun _ h => h.1) (fun _ _ _ h => h) (.inl ⟨by rfl, ?hya4⟩) hSSa ?_
    case hya4 =>
      intro w' hSw
      try dsimp only at hSw
      go_simp
      all_goals with_reducible rfl
    try simp only [Act.put]
    refine wpAnyB_take (i := 4) (oi := _) (v := ?vva5) (fun w' => w'.cell? ⟨g, 5, none⟩ = some (.slice VA z.works.length vc) ∧ w'.cell? ⟨g, 7, none⟩ = some (.slice XA z.xs.length xc)) rfl (by kernel_rfl) (by kernel_rfl) (by kernel_rfl) (by kernel_rfl) (by rfl) (fun _ h => ⟨h.1, h.2 rfl⟩) (.inr (by kernel_rfl)) (fun _ _ _ h => h) (.inl ⟨by rfl, ?hya5⟩) hSSa ?_
    case hya5 =>
      intro w' hSw
      try dsimp only at hSw
      go_simp
      all_goals with_reducible rfl
    try simp only [Act.put]
    refine wpAnyB_take (i := 5) (oi := _) (v := ?vva6) (fun w' => w'.cell? ⟨g, 5, none⟩ = some (.slice VA z.works.length vc)) rfl (by kernel_rfl) (by kernel_rfl) (by kernel_rfl) (by kernel_rfl) (by rfl) (fun _ h => h.1) (.inl fun _ h => h.1) (fun _ _ _ h => h) (.inl ⟨by rfl, ?hya6⟩) hSSa ?_
    case hya6 =>
      intro w' hSw
      try dsimp only at hSw
      go_simp
      all_goals with_reducible rfl
    try simp only [Act.put]
    refine wpAnyB_take (i := 6) (oi := _) (v := ?vva7) (fun w' => w'.cell? ⟨g, 5, none⟩ = some (.slice VA z.works.length vc)) rfl (by kernel_rfl) (by kernel_rfl) (by kernel_rfl) (by kernel_rfl) (by rfl) (fun _ h => h.1) (.inl fun _ h => h.1) (fun _ _ _ h => h) (.inl ⟨by rfl, ?hya7⟩) hSSa ?_
    case hya7 =>
      intro w' hSw
      try dsimp only at hSw
      go_simp
      all_goals with_reducible rfl
    try simp only [Act.put]
    refine wpAnyB_take (i := 7) (oi := _) (v := ?vva8) (fun w' => w'.cell? ⟨g, 5, none⟩ = some (.slice VA z.works.length vc)) rfl (by kernel_rfl) (by kernel_rfl) (by kernel_rfl) (by kernel_rfl) (by rfl) (fun _ h => h.1) (.inl fun _ h => h.1) (fun _ _ _ h => h) (.inl ⟨by rfl, ?hya8⟩) hSSa ?_
    case hya8 =>
      intro w' hSw
      try dsimp only at hSw
      go_simp
      all_goals with_reducible rfl
    try simp only [Act.put]
    refine wpAnyB_take (i := 8) (oi := _) (v := ?vva9) (fun w' => w'.cell? ⟨g, 5, none⟩ = some (.slice VA z.works.length vc)) rfl (by kernel_rfl) (by kernel_rfl) (by kernel_rfl) (by kernel_rfl) (by rfl) (fun _ h => h.1) (.inl fun _ h => h.1) (fun _ _ _ h => h) (.inl ⟨by rfl, ?hya9⟩) hSSa ?_
    case hya9 =>
      intro w' hSw
      try dsimp only at hSw
      go_simp
      all_goals with_reducible rfl
    try simp only [Act.put]
    refine wpAnyB_take (i := 9) (oi := _) (v := ?vva10) (fun w' => w'.cell? ⟨g, 5, none⟩ = some (.slice VA z.works.length vc)) rfl (by kernel_rfl) (by kernel_rfl) (by kernel_rfl) (by kernel_rfl) (by rfl) (fun _ h => h.1) (.inl fun _ h => h.1) (fun _ _ _ h => h) (.inl ⟨by rfl, ?hya10⟩) hSSa ?_
    case hya10 =>
      intro w' hSw
      try dsimp only at hSw
      go_simp
      all_goals with_reducible rfl
    try simp only [Act.put]
    refine wpAnyB_take (i := 10) (oi := _) (v := ?vva11) (fun w' => w'.cell? ⟨g, 5, none⟩ = some (.slice VA z.works.length vc)) rfl (by kernel_rfl) (by kernel_rfl) (by kernel_rfl) (by kernel_rfl) (by rfl) (fun _ h => h.1) (.inl fun _ h => h.1) (fun _ _ _ h => h) (.inl ⟨by rfl, ?hya11⟩) hSSa ?_
    case hya11 =>
      intro w' hSw
      try dsimp only at hSw
      go_simp
      all_goals with_reducible rfl
    try simp only [Act.put]
    refine wpAnyB_take (i := 11) (oi := _) (v := ?vva12) (fun w' => w'.cell? ⟨g, 5, none⟩ = some (.slice VA z.works.length vc)) rfl (by kernel_rfl) (by kernel_rfl) (by kernel_rfl) (by kernel_rfl) (by rfl) (fun _ h => h.1) (.inl fun _ h => h.1) (fun _ _ _ h => h) (.inl ⟨by rfl, ?hya12⟩) hSSa ?_
    case hya12 =>
      intro w' hSw
      try dsimp only at hSw
      go_simp
      all_goals with_reducible rfl
    try simp only [Act.put]
    refine wpAnyB_take (i := 12) (oi := _) (v := ?vva13) (fun w' => w'.cell? ⟨g, 5, none⟩ = some (.slice VA z.works.length vc)) rfl (by kernel_rfl) (by kernel_rfl) (by kernel_rfl) (by kernel_rfl) (by rfl) (fun _ h => h.1) (.inl fun _ h => h.1) (fun _ _ _ h => h) (.inl ⟨by rfl, ?hya13⟩) hSSa ?_
    case hya13 =>
      intro w' hSw
      try dsimp only at hSw
      go_simp
      all_goals with_reducible rfl
    try simp only [Act.put]
    refine wpAnyB_take (i := 13) (oi := _) (v := ?vva14) (fun w' => w'.cell? ⟨g, 5, none⟩ = some (.slice VA z.works.length vc)) rfl (by kernel_rfl) (by kernel_rfl) (by kernel_rfl) (by kernel_rfl) (by rfl) (fun _ h => h.1) (.inl fun _ h => h.1) (fun _ _ _ h => h) (.inl ⟨by rfl, ?hya14⟩) hSSa ?_
    case hya14 =>
      intro w' hSw
      try dsimp only at hSw
      go_simp
      all_goals with_reducible rfl
    try simp only [Act.put]
    refine wpAnyB_one (i := 14) false rfl (by kernel_rfl) (by kernel_rfl) ?_
    intro KK hKK
    go_simp
    have h2 : PilH (W1.alloc (.cells #[.int .i64 (z.works.length : Int), .int .i64 (t : Int), .int .i64 la, .int .i64 lb] 47)).drew B g p s { z with l := (z.l.set t lb).set (t + 1) la } S M (.slice VA z.works.length vc) (.slice (some ⟨bl, 0, none⟩) z.l.length lc) (.slice XA z.xs.length xc) P := (RowsH.below h1 ((Below.refl _ W1).alloc (Nat.le_refl _) (.cells #[.int .i64 (z.works.length : Int), .int .i64 (t : Int), .int .i64 la, .int .i64 lb] 47))).drew
    have hn2 : ∀ p u, ([.int .i64 (z.works.length : Int), .int .i64 (t : Int), .int .i64 la, .int .i64 lb] : List Value)[p]? = some u → (W1.alloc (.cells #[.int .i64 (z.works.length : Int), .int .i64 (t : Int), .int .i64 la, .int .i64 lb] 47)).drew.cell? ⟨W1.heap.size, p, none⟩ = some u := fun p u hu => ((Has.new (w := W1) (t := 47) (cs := [.int .i64 (z.works.length : Int), .int .i64 (t : Int), .int .i64 la, .int .i64 lb]) rfl).drew.cell p).trans hu
    have B2 := ((Below.refl _ W1).alloc (Nat.le_refl _) (.cells #[.int .i64 (z.works.length : Int), .int .i64 (t : Int), .int .i64 la, .int .i64 lb] 47)).drew
    generalize (W1.alloc (.cells #[.int .i64 (z.works.length : Int), .int .i64 (t : Int), .int .i64 la, .int .i64 lb] 47)).drew = W2 at *
    refine hKK.out _ _ ⟨RowsH.cell h2 5, fun _ => RowsH.cell h2 7⟩ ?_
    clear hKK KK
    try simp only [Act.put, List.setIfInBounds_toArray, List.set_cons_zero, List.set_cons_succ]
    refine wpAnyB_one (i := 15) false rfl (by kernel_rfl) (by kernel_rfl) ?_
    intro KK hKK
    refine step_appN rfl (.tmp 46) (.tmp 56) 40 rfl B 47 (.agg #[.int .i64 0, .int .i64 0, .int .i64 0, .int .i64 0]) 4 32 Try.underlying40 infoCrs rfl (by omega) (by omega) (.slice XA z.xs.length xc) z.xs.length (qsC z.xs) rfl (h2.o 4 _ rfl) ⟨W1.heap.size, 0, none⟩ 1 1 [.int .i64 (z.works.length : Int), .int .i64 (t : Int), .int .i64 la, .int .i64 lb] rfl rfl (fun j u hu => by rw [Addr.add_lit, Nat.zero_add]; exact hn2 j u hu) (by simp [Value.oneCell']) (by omega) h2.z ?_
    intro v' w4 hown4 hgrow4 hnil4 hor4
    obtain ⟨A4, c4, rfl⟩ := own_form hown4
    have h4c : Has w4 g 81 _ := h2.c.same (hgrow4.block _ h2.c.lt (fun e => h2.ne (i := 4) rfl e.symm))
    refine hKK.out _ _ ⟨h4c.cell 5, fun _ => h4c.cell 7⟩ ?_
    clear hKK KK
    try simp only [Act.put, List.setIfInBounds_toArray]
    refine wpAnyB_take (i := 16) (oi := _) (v := ?vva15) (fun w' => w'.cell? ⟨g, 5, none⟩ = some (.slice VA z.works.length vc)) rfl (by kernel_rfl) (by kernel_rfl) (by kernel_rfl) (by kernel_rfl) (by rfl) (fun _ h => h.1) (.inl fun _ h => h.1) (fun _ _ _ h => h) (.inl ⟨by rfl, ?hya15⟩) ⟨h4c.cell 5, fun _ => h4c.cell 7⟩ ?_
    case hya15 =>
      intro w' hSw
      try dsimp only at hSw
      go_simp
      all_goals with_reducible rfl
    try simp only [Act.put]
    refine wpAnyB_take (i := 17) (oi := _) (v := ?vva16) (fun w' => w'.cell? ⟨g, 5, none⟩ = some (.slice VA z.works.length vc)) rfl (by kernel_rfl) (by kernel_rfl) (by kernel_rfl) (by kernel_rfl) (by rfl) (fun _ h => h.1) (.inl fun _ h => h.1) (fun _ _ _ h => h) (.inl ⟨by rfl, ?hya16⟩) ⟨h4c.cell 5, fun _ => h4c.cell 7⟩ ?_
    case hya16 =>
      intro w' hSw
      try dsimp only at hSw
      go_simp
      all_goals with_reducible rfl
    try simp only [Act.put]
    refine wpAnyB_one (i := 18) true rfl (by kernel_rfl) (by kernel_rfl) ?_
    intro KK hKK
    have f4 := h4c.free 7
    have q4 := h4c.lt
    have s4 : w4.cell? ⟨g, 7, none⟩ = some (.slice XA z.xs.length xc) := h4c.cell 7
    go_simp
    refine hKK.out _ _ ⟨(h4c.set 7 (.slice A4 (z.xs.length + 1) c4)).cell 5, fun hh => by cases hh⟩ ?_
    clear hKK KK
    try simp only [Act.put, List.setIfInBounds_toArray, List.set_cons_zero, List.set_cons_succ]
    refine wpAnyB_done (by kernel_rfl) (NoPanic.normal ?_) _
    have h5 : PilH (w4.setCell ⟨g, 7, none⟩ (.slice A4 (z.xs.length + 1) c4)) B g p s (z.cross t true) S M (.slice VA z.works.length vc) (.slice (some ⟨bl, 0, none⟩) z.l.length lc) (.slice A4 (z.xs.length + 1) c4) P := by
      have h6 := RowsH.grow h2 (i := 4) rfl hgrow4 hown4 7 rfl
      rw [HST.out]
      unfold PilH pilRows
      rw [List.length_append, qsC_app]
      exact h6
    have k5 : KeepB (fun r => r = g ∨ some r = (Value.slice (some ⟨bl, 0, none⟩) z.l.length lc).ownBlock ∨ some r = (Value.slice XA z.xs.length xc).ownBlock) W (w4.setCell ⟨g, 7, none⟩ (.slice A4 (z.xs.length + 1) c4)) := ((k1.trans (KeepB.of_below B2)).trans (KeepB.grown hgrow4 (fun r hr => .inr (.inr hr)))).trans (KeepB.set _ (.inl rfl) 7 (.slice A4 (z.xs.length + 1) c4))
    have g5 : Grown g W _ (w4.setCell ⟨g, 7, none⟩ (.slice A4 (z.xs.length + 1) c4)) _ := (g1.trans (Grown.below B2)).trans (Grown.grow (i := 4) rfl hgrow4 hor4 7)
    go_end0
    refine ⟨⟨_, rfl⟩, .slice A4 (z.xs.length + 1) c4, ?_, ?_, ?_⟩
    · first | exact h5 | exact RowsH.drew h5
    · first | exact k5 | exact k5.drew
    · first | exact g5 | exact g5.drew
  | false =>
    go_wp2
    refine wp_region_noPanic ?_
    refine wp_region_B (fun b w' => w'.cell? ⟨g, 5, none⟩ = some (.slice VA z.works.length vc) ∧ (b = false → w'.cell? ⟨g, 7, none⟩ = some (.slice XA z.xs.length xc))) 18 (by kernel_rfl) ?_
    have hSSb : (fun b w' => w'.cell? ⟨g, 5, none⟩ = some (.slice VA z.works.length vc) ∧ (b = false → w'.cell? ⟨g, 7, none⟩ = some (.slice XA z.xs.length xc))) false (W1.drew) := ⟨RowsH.cell h1 5, fun _ => RowsH.cell h1 7⟩
    refine wpAnyB_take (i := 0) (oi := _) (v := ?vvb1) (fun w' => w'.cell? ⟨g, 5, none⟩ = some (.slice VA z.works.length vc)) rfl (by kernel_rfl) (by kernel_rfl) (by kernel_rfl) (by kernel_rfl) (by rfl) (fun _ h => h.1) (.inl fun _ h => h.1) (fun _ _ _ h => h) (.inl ⟨by rfl, ?hyb1⟩) hSSb ?_
    case hyb1 =>
      intro w' hSw
      try dsimp only at hSw
      go_simp
      all_goals with_reducible rfl
    try simp only [Act.put, List.setIfInBounds_toArray]
    refine wpAnyB_take (i := 1) (oi := _) (v := ?vvb2) (fun w' => w'.cell? ⟨g, 5, none⟩ = some (.slice VA z.works.length vc)) rfl (by kernel_rfl) (by kernel_rfl) (by kernel_rfl) (by kernel_rfl) (by rfl) (fun _ h => h.1) (.inl fun _ h => h.1) (fun _ _ _ h => h) (.inl ⟨by rfl, ?hyb2⟩) hSSb ?_
    case hyb2 =>
      intro w' hSw
      try dsimp only at hSw
      go_simp
      all_goals with_reducible rfl
    try simp only [Act.put]
    refine wpAnyB_take (i := 2) (oi := _) (v := ?vvb3) (fun w' => w'.cell? ⟨g, 5, none⟩ = some (.slice VA z.works.length vc)) rfl (by kernel_rfl) (by kernel_rfl) (by kernel_rfl) (by kernel_rfl) (by rfl) (fun _ h => h.1) (.inl fun _ h => h.1) (fun _ _ _ h => h) (.inl ⟨by rfl, ?hyb3⟩) hSSb ?_
    case hyb3 =>
      intro w' hSw
      try dsimp only at hSw
      go_simp
      all_goals with_reducible rfl
    try simp only [Act.put]
    refine wpAnyB_take (i := 3) (oi := _) (v := ?vvb4) (fun w' => w'.cell? ⟨g, 5, none⟩ = some (.slice VA z.works.length vc)) rfl (by kernel_rfl) (by kernel_rfl) (by kernel_rfl) (by kernel_rfl) (by rfl) (fun _ h => h.1) (.inl fun _ h => h.1) (fun _ _ _ h => h) (.inl ⟨by rfl, ?hyb4⟩) hSSb ?_
    case hyb4 =>
      intro w' hSw
      try dsimp only at hSw
      go_simp
      all_goals with_reducible rfl
    try simp only [Act.put]
    refine wpAnyB_take (i := 4) (oi := _) (v := ?vvb5) (fun w' => w'.cell? ⟨g, 5, none⟩ = some (.slice VA z.works.length vc) ∧ w'.cell? ⟨g, 7, none⟩ = some (.slice XA z.xs.length xc)) rfl (by kernel_rfl) (by kernel_rfl) (by kernel_rfl) (by kernel_rfl) (by rfl) (fun _ h => ⟨h.1, h.2 rfl⟩) (.inr (by kernel_rfl)) (fun _ _ _ h => h) (.inl ⟨by rfl, ?hyb5⟩) hSSb ?_
    case hyb5 =>
      intro w' hSw
      try dsimp only at hSw
      go_simp
      all_goals with_reducible rfl
    try simp only [Act.put]
    refine wpAnyB_take (i := 5) (oi := _) (v := ?vvb6) (fun w' => w'.cell? ⟨g, 5, none⟩ = some (.slice VA z.works.length vc)) rfl (by kernel_rfl) (by kernel_rfl) (by kernel_rfl) (by kernel_rfl) (by rfl) (fun _ h => h.1) (.inl fun _ h => h.1) (fun _ _ _ h => h) (.inl ⟨by rfl, ?hyb6⟩) hSSb ?_
    case hyb6 =>
      intro w' hSw
      try dsimp only at hSw
      go_simp
      all_goals with_reducible rfl
    try simp only [Act.put]
    refine wpAnyB_take (i := 6) (oi := _) (v := ?vvb7) (fun w' => w'.cell? ⟨g, 5, none⟩ = some (.slice VA z.works.length vc)) rfl (by kernel_rfl) (by kernel_rfl) (by kernel_rfl) (by kernel_rfl) (by rfl) (fun _ h => h.1) (.inl fun _ h => h.1) (fun _ _ _ h => h) (.inl ⟨by rfl, ?hyb7⟩) hSSb ?_
    case hyb7 =>
      intro w' hSw
      try dsimp only at hSw
      go_simp
      all_goals with_reducible rfl
    try simp only [Act.put]
    refine wpAnyB_take (i := 7) (oi := _) (v := ?vvb8) (fun w' => w'.cell? ⟨g, 5, none⟩ = some (.slice VA z.works.length vc)) rfl (by kernel_rfl) (by kernel_rfl) (by kernel_rfl) (by kernel_rfl) (by rfl) (fun _ h => h.1) (.inl fun _ h => h.1) (fun _ _ _ h => h) (.inl ⟨by rfl, ?hyb8⟩) hSSb ?_
    case hyb8 =>
      intro w' hSw
      try dsimp only at hSw
      go_simp
      all_goals with_reducible rfl
    try simp only [Act.put]
    refine wpAnyB_take (i := 8) (oi := _) (v := ?vvb9) (fun w' => w'.cell? ⟨g, 5, none⟩ = some (.slice VA z.works.length vc)) rfl (by kernel_rfl) (by kernel_rfl) (by kernel_rfl) (by kernel_rfl) (by rfl) (fun _ h => h.1) (.inl fun _ h => h.1) (fun _ _ _ h => h) (.inl ⟨by rfl, ?hyb9⟩) hSSb ?_
    case hyb9 =>
      intro w' hSw
      try dsimp only at hSw
      go_simp
      all_goals with_reducible rfl
    try simp only [Act.put]
    refine wpAnyB_take (i := 9) (oi := _) (v := ?vvb10) (fun w' => w'.cell? ⟨g, 5, none⟩ = some (.slice VA z.works.length vc)) rfl (by kernel_rfl) (by kernel_rfl) (by kernel_rfl) (by kernel_rfl) (by rfl) (fun _ h => h.1) (.inl fun _ h => h.1) (fun _ _ _ h => h) (.inl ⟨by rfl, ?hyb10⟩) hSSb ?_
    case hyb10 =>
      intro w' hSw
      try dsimp only at hSw
      go_simp
      all_goals with_reducible rfl
    try simp only [Act.put]
    refine wpAnyB_take (i := 10) (oi := _) (v := ?vvb11) (fun w' => w'.cell? ⟨g, 5, none⟩ = some (.slice VA z.works.length vc)) rfl (by kernel_rfl) (by kernel_rfl) (by kernel_rfl) (by kernel_rfl) (by rfl) (fun _ h => h.1) (.inl fun _ h => h.1) (fun _ _ _ h => h) (.inl ⟨by rfl, ?hyb11⟩) hSSb ?_
    case hyb11 =>
      intro w' hSw
      try dsimp only at hSw
      go_simp
      all_goals with_reducible rfl
    try simp only [Act.put]
    refine wpAnyB_take (i := 11) (oi := _) (v := ?vvb12) (fun w' => w'.cell? ⟨g, 5, none⟩ = some (.slice VA z.works.length vc)) rfl (by kernel_rfl) (by kernel_rfl) (by kernel_rfl) (by kernel_rfl) (by rfl) (fun _ h => h.1) (.inl fun _ h => h.1) (fun _ _ _ h => h) (.inl ⟨by rfl, ?hyb12⟩) hSSb ?_
    case hyb12 =>
      intro w' hSw
      try dsimp only at hSw
      go_simp
      all_goals with_reducible rfl
    try simp only [Act.put]
    refine wpAnyB_take (i := 12) (oi := _) (v := ?vvb13) (fun w' => w'.cell? ⟨g, 5, none⟩ = some (.slice VA z.works.length vc)) rfl (by kernel_rfl) (by kernel_rfl) (by kernel_rfl) (by kernel_rfl) (by rfl) (fun _ h => h.1) (.inl fun _ h => h.1) (fun _ _ _ h => h) (.inl ⟨by rfl, ?hyb13⟩) hSSb ?_
    case hyb13 =>
      intro w' hSw
      try dsimp only at hSw
      go_simp
      all_goals with_reducible rfl
    try simp only [Act.put]
    refine wpAnyB_take (i := 13) (oi := _) (v := ?vvb14) (fun w' => w'.cell? ⟨g, 5, none⟩ = some (.slice VA z.works.length vc)) rfl (by kernel_rfl) (by kernel_rfl) (by kernel_rfl) (by kernel_rfl) (by rfl) (fun _ h => h.1) (.inl fun _ h => h.1) (fun _ _ _ h => h) (.inl ⟨by rfl, ?hyb14⟩) hSSb ?_
    case hyb14 =>
      intro w' hSw
      try dsimp only at hSw
      go_simp
      all_goals with_reducible rfl
    try simp only [Act.put]
    refine wpAnyB_one (i := 14) false rfl (by kernel_rfl) (by kernel_rfl) ?_
    intro KK hKK
    go_simp
    have h2 : PilH (W1.alloc (.cells #[.int .i64 (z.works.length : Int), .int .i64 (t : Int), .int .i64 lb, .int .i64 la] 47)).drew B g p s { z with l := (z.l.set t lb).set (t + 1) la } S M (.slice VA z.works.length vc) (.slice (some ⟨bl, 0, none⟩) z.l.length lc) (.slice XA z.xs.length xc) P := (RowsH.below h1 ((Below.refl _ W1).alloc (Nat.le_refl _) (.cells #[.int .i64 (z.works.length : Int), .int .i64 (t : Int), .int .i64 lb, .int .i64 la] 47))).drew
    have hn2 : ∀ p u, ([.int .i64 (z.works.length : Int), .int .i64 (t : Int), .int .i64 lb, .int .i64 la] : List Value)[p]? = some u → (W1.alloc (.cells #[.int .i64 (z.works.length : Int), .int .i64 (t : Int), .int .i64 lb, .int .i64 la] 47)).drew.cell? ⟨W1.heap.size, p, none⟩ = some u := fun p u hu => ((Has.new (w := W1) (t := 47) (cs := [.int .i64 (z.works.length : Int), .int .i64 (t : Int), .int .i64 lb, .int .i64 la]) rfl).drew.cell p).trans hu
    have B2 := ((Below.refl _ W1).alloc (Nat.le_refl _) (.cells #[.int .i64 (z.works.length : Int), .int .i64 (t : Int), .int .i64 lb, .int .i64 la] 47)).drew
    generalize (W1.alloc (.cells #[.int .i64 (z.works.length : Int), .int .i64 (t : Int), .int .i64 lb, .int .i64 la] 47)).drew = W2 at *
    refine hKK.out _ _ ⟨RowsH.cell h2 5, fun _ => RowsH.cell h2 7⟩ ?_
    clear hKK KK
    try simp only [Act.put, List.setIfInBounds_toArray, List.set_cons_zero, List.set_cons_succ]
    refine wpAnyB_one (i := 15) false rfl (by kernel_rfl) (by kernel_rfl) ?_
    intro KK hKK
    refine step_appN rfl (.tmp 46) (.tmp 56) 40 rfl B 47 (.agg #[.int .i64 0, .int .i64 0, .int .i64 0, .int .i64 0]) 4 32 Try.underlying40 infoCrs rfl (by omega) (by omega) (.slice XA z.xs.length xc) z.xs.length (qsC z.xs) rfl (h2.o 4 _ rfl) ⟨W1.heap.size, 0, none⟩ 1 1 [.int .i64 (z.works.length : Int), .int .i64 (t : Int), .int .i64 lb, .int .i64 la] rfl rfl (fun j u hu => by rw [Addr.add_lit, Nat.zero_add]; exact hn2 j u hu) (by simp [Value.oneCell']) (by omega) h2.z ?_
    intro v' w4 hown4 hgrow4 hnil4 hor4
    obtain ⟨A4, c4, rfl⟩ := own_form hown4
    have h4c : Has w4 g 81 _ := h2.c.same (hgrow4.block _ h2.c.lt (fun e => h2.ne (i := 4) rfl e.symm))
    refine hKK.out _ _ ⟨h4c.cell 5, fun _ => h4c.cell 7⟩ ?_
    clear hKK KK
    try simp only [Act.put, List.setIfInBounds_toArray]
    refine wpAnyB_take (i := 16) (oi := _) (v := ?vvb15) (fun w' => w'.cell? ⟨g, 5, none⟩ = some (.slice VA z.works.length vc)) rfl (by kernel_rfl) (by kernel_rfl) (by kernel_rfl) (by kernel_rfl) (by rfl) (fun _ h => h.1) (.inl fun _ h => h.1) (fun _ _ _ h => h) (.inl ⟨by rfl, ?hyb15⟩) ⟨h4c.cell 5, fun _ => h4c.cell 7⟩ ?_
    case hyb15 =>
      intro w' hSw
      try dsimp only at hSw
      go_simp
      all_goals with_reducible rfl
    try simp only [Act.put]
    refine wpAnyB_take (i := 17) (oi := _) (v := ?vvb16) (fun w' => w'.cell? ⟨g, 5, none⟩ = some (.slice VA z.works.length vc)) rfl (by kernel_rfl) (by kernel_rfl) (by kernel_rfl) (by kernel_rfl) (by rfl) (fun _ h => h.1) (.inl fun _ h => h.1) (fun _ _ _ h => h) (.inl ⟨by rfl, ?hyb16⟩) ⟨h4c.cell 5, fun _ => h4c.cell 7⟩ ?_
    case hyb16 =>
      intro w' hSw
      try dsimp only at hSw
      go_simp
      all_goals with_reducible rfl
    try simp only [Act.put]
    refine wpAnyB_one (i := 18) true rfl (by kernel_rfl) (by kernel_rfl) ?_
    intro KK hKK
    have f4 := h4c.free 7
    have q4 := h4c.lt
    have s4 : w4.cell? ⟨g, 7, none⟩ = some (.slice XA z.xs.length xc) := h4c.cell 7
    go_simp
    refine hKK.out _ _ ⟨(h4c.set 7 (.slice A4 (z.xs.length + 1) c4)).cell 5, fun hh => by cases hh⟩ ?_
    clear hKK KK
    try simp only [Act.put, List.setIfInBounds_toArray, List.set_cons_zero, List.set_cons_succ]
    refine wpAnyB_done (by kernel_rfl) (NoPanic.normal ?_) _
    have h5 : PilH (w4.setCell ⟨g, 7, none⟩ (.slice A4 (z.xs.length + 1) c4)) B g p s (z.cross t false) S M (.slice VA z.works.length vc) (.slice (some ⟨bl, 0, none⟩) z.l.length lc) (.slice A4 (z.xs.length + 1) c4) P := by
      have h6 := RowsH.grow h2 (i := 4) rfl hgrow4 hown4 7 rfl
      rw [HST.out]
      unfold PilH pilRows
      rw [List.length_append, qsC_app]
      exact h6
    have k5 : KeepB (fun r => r = g ∨ some r = (Value.slice (some ⟨bl, 0, none⟩) z.l.length lc).ownBlock ∨ some r = (Value.slice XA z.xs.length xc).ownBlock) W (w4.setCell ⟨g, 7, none⟩ (.slice A4 (z.xs.length + 1) c4)) := ((k1.trans (KeepB.of_below B2)).trans (KeepB.grown hgrow4 (fun r hr => .inr (.inr hr)))).trans (KeepB.set _ (.inl rfl) 7 (.slice A4 (z.xs.length + 1) c4))
    have g5 : Grown g W _ (w4.setCell ⟨g, 7, none⟩ (.slice A4 (z.xs.length + 1) c4)) _ := (g1.trans (Grown.below B2)).trans (Grown.grow (i := 4) rfl hgrow4 hor4 7)
    go_end0
    refine ⟨⟨_, rfl⟩, .slice A4 (z.xs.length + 1) c4, ?_, ?_, ?_⟩
    · first | exact h5 | exact RowsH.drew h5
    · first | exact k5 | exact k5.drew
    · first | exact g5 | exact g5.drew
end Go.Proofs.Ytaenafcecfdffaa
