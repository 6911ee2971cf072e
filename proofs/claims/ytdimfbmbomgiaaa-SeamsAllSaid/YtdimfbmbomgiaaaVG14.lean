/-
  Memory words for torchonref17.Make.
-/
import Derived.Test.YtdimfbmbomgiaaaVG7
import Derived.Test.YtdimfbmbomgiaaaVG13
namespace Go.Proofs.Ytdimfbmbomgiaaa
open Go.RowKit
structure MkR (V W : World) (gc gl cl m : Nat) (t : Int) (s : Mk) (X : Option Addr) (nx cx : Nat) (P : Option Addr) (np cp : Nat) : Prop where
  c : Has W gc 49 [.int .i64 t, .slice X nx cx, .slice P np cp]
  l : W.ownsRow (gc + 1) 3 1 (.slice (some ⟨gl, 0, none⟩) m cl) m ((s.l.take m).map vInt)
  ox : W.ownsRow (gl + 1) 83 4 (.slice X nx cx) nx (qsC s.xs)
  op : W.ownsRow (gl + 1) 80 4 (.slice P np cp) np (qsC s.ps)
  b : Below gc V W
  v : gc ≤ V.heap.size
  sz : gl + 1 ≤ W.heap.size
  nxs : s.xs.length = nx
  nps : s.ps.length = np
section
variable {V W W' : World} {gc gl cl m : Nat} {t : Int} {s : Mk} {X P : Option Addr} {nx cx np cp : Nat} {gw : Nat} {x : Wk}
theorem MkR.lt (h : MkR V W gc gl cl m t s X nx cx P np cp) : gc < gl := by
  have := (h.l.lt gl rfl).1; omega
theorem MkR.below (h : MkR V W gc gl cl m t s X nx cx P np cp) (k : Below W.heap.size W W') : MkR V W' gc gl cl m t s X nx cx P np cp :=
  ⟨h.c.below k h.c.lt, own_below h.l k, own_below h.ox k, own_below h.op k, h.b.trans (k.mono (Nat.le_of_lt h.c.lt)), h.v, Nat.le_trans h.sz k.size, h.nxs, h.nps⟩
theorem kept_of {base base' : Nat} {e e' : TypeId} {size size' n n' : Nat} {v v' : Value} {xs xs' : List Value} (h : W.ownsRow base e size v n xs) (h' : W.ownsRow base' e' size' v' n' xs') (hne : e ≠ e') (k : W.grownBy W' v'.ownBlock) : W'.ownsRow base e size v n xs :=
  h.kept k (by cases hv : v.ownBlock with | none => exact .inl rfl | some g => exact .inr (fun e => own_apart h h' hne hv e.symm))
/-- a pin is put behind its row, and the slice into the cloth -/
theorem MkR.pinned (h : MkR V W gc gl cl m t s X nx cx P np cp) {P' : Option Addr} {cp' : Nat} (y : Q4) (ho : W'.ownsRow (gl + 1) 80 4 (.slice P' (np + 1) cp') (np + 1) (qsC s.ps ++ q4C y)) (k : W.grownBy W' (Value.slice P np cp).ownBlock) :
    MkR V (W'.setCell ⟨gc, 2, none⟩ (.slice P' (np + 1) cp')) gc gl cl m t { s with ps := s.ps ++ [y] } X nx cx P' (np + 1) cp' := by
  have hc : Has W' gc _ _ := h.c.same (k.block gc h.c.lt (fun e => (h.c.ne_own h.op (by decide)) e.symm))
  have hl := kept_of h.l h.op (by decide) k
  have hx := kept_of h.ox h.op (by decide) k
  have hB := But.set gc W' 2 (.slice P' (np + 1) cp')
  refine ⟨hc.set 2 _, hB.own hl (hc.ne_own hl (by decide)), hB.own hx (hc.ne_own hx (by decide)), ?_, ?_, h.v, Nat.le_trans h.sz (Nat.le_trans k.size hB.size), h.nxs, by simp [h.nps]⟩
  · rw [qsC_app]; exact hB.own ho (hc.ne_own ho (by decide))
  · refine (h.b.grown k (Nat.le_of_lt h.c.lt) (fun r hr => ?_)).setCell (Nat.le_refl _) _
    have := (h.op.lt r hr).1; have := h.lt; omega
theorem MkR.crossed (h : MkR V W gc gl cl m t s X nx cx P np cp) {X' : Option Addr} {cx' : Nat} (y : Q4) (ho : W'.ownsRow (gl + 1) 83 4 (.slice X' (nx + 1) cx') (nx + 1) (qsC s.xs ++ q4C y)) (k : W.grownBy W' (Value.slice X nx cx).ownBlock) :
    MkR V (W'.setCell ⟨gc, 1, none⟩ (.slice X' (nx + 1) cx')) gc gl cl m t { s with xs := s.xs ++ [y] } X' (nx + 1) cx' P np cp := by
  have hc : Has W' gc _ _ := h.c.same (k.block gc h.c.lt (fun e => (h.c.ne_own h.ox (by decide)) e.symm))
  have hl := kept_of h.l h.ox (by decide) k
  have hp := kept_of h.op h.ox (by decide) k
  have hB := But.set gc W' 1 (.slice X' (nx + 1) cx')
  refine ⟨hc.set 1 _, hB.own hl (hc.ne_own hl (by decide)), ?_, hB.own hp (hc.ne_own hp (by decide)), ?_, h.v, Nat.le_trans h.sz (Nat.le_trans k.size hB.size), by simp [h.nxs], h.nps⟩
  · rw [qsC_app]; exact hB.own ho (hc.ne_own ho (by decide))
  · refine (h.b.grown k (Nat.le_of_lt h.c.lt) (fun r hr => ?_)).setCell (Nat.le_refl _) _
    have := (h.ox.lt r hr).1; have := h.lt; omega
/-- two places of the line are exchanged -/
theorem MkR.swapped (h : MkR V W gc gl cl m t s X nx cx P np cp) (i j : Nat) (a b : Int) :
    MkR V ((W.setCell ⟨gl, i, none⟩ (vInt a)).setCell ⟨gl, j, none⟩ (vInt b)) gc gl cl m t { s with l := (s.l.set i a).set j b } X nx cx P np cp := by
  have hB := (But.set gl W i (vInt a)).trans (But.set gl (W.setCell ⟨gl, i, none⟩ (vInt a)) j (vInt b))
  have hl := ((h.l.stored i (vInt a)).1.stored j (vInt b)).1
  have hlt := h.lt
  refine ⟨hB.has h.c (by omega), ?_, hB.own h.ox ?_, hB.own h.op ?_, h.b.trans (hB.below (by omega) (Nat.le_of_lt h.c.lt)), h.v, Nat.le_trans h.sz hB.size, h.nxs, h.nps⟩
  · rw [show ((s.l.set i a).set j b).take m = ((s.l.take m).set i a).set j b by rw [List.take_set, List.take_set], List.map_set, List.map_set]
    exact hl
  · intro e; have := (h.ox.lt gl e).1; omega
  · intro e; have := (h.op.lt gl e).1; omega
theorem work_pinned (j : Has W gw 63 (wkCells x)) (h : MkR V W gc gl cl m t s X nx cx P np cp) (k : W.grownBy W' (Value.slice P np cp).ownBlock) (hg : gl + 1 ≤ gw) (u : Value) : Has (W'.setCell ⟨gc, 2, none⟩ u) gw 63 (wkCells x) := by
  have := h.lt
  exact (j.same (k.block gw j.lt (fun e => (j.ne_own h.op (by decide)) e.symm))).far (by omega) 2 _
theorem work_crossed (j : Has W gw 63 (wkCells x)) (h : MkR V W gc gl cl m t s X nx cx P np cp) (k : W.grownBy W' (Value.slice X nx cx).ownBlock) (hg : gl + 1 ≤ gw) (u : Value) : Has (W'.setCell ⟨gc, 1, none⟩ u) gw 63 (wkCells x) := by
  have := h.lt
  exact (j.same (k.block gw j.lt (fun e => (j.ne_own h.ox (by decide)) e.symm))).far (by omega) 1 _
theorem work_swapped (j : Has W gw 63 (wkCells x)) (hg : gl + 1 ≤ gw) (i k : Nat) (a b : Value) : Has ((W.setCell ⟨gl, i, none⟩ a).setCell ⟨gl, k, none⟩ b) gw 63 (wkCells x) :=
  (j.far (by omega) i a).far (by omega) k b
theorem rowR_crossed {n : Nat} {v : Value} {ys : List Value} (r : W.ownsRow (gl + 1) 3 1 v n ys) (h : MkR V W gc gl cl m t s X nx cx P np cp) (k : W.grownBy W' (Value.slice X nx cx).ownBlock) (u : Value) : (W'.setCell ⟨gc, 1, none⟩ u).ownsRow (gl + 1) 3 1 v n ys := by
  have h1 := kept_of r h.ox (by decide) k
  have hc : Has W' gc _ _ := h.c.same (k.block gc h.c.lt (fun e => (h.c.ne_own h.ox (by decide)) e.symm))
  exact (But.set gc W' 1 u).own h1 (hc.ne_own h1 (by decide))
theorem rowR_swapped {n : Nat} {v : Value} {ys : List Value} (r : W.ownsRow (gl + 1) 3 1 v n ys) (i k : Nat) (a b : Value) : ((W.setCell ⟨gl, i, none⟩ a).setCell ⟨gl, k, none⟩ b).ownsRow (gl + 1) 3 1 v n ys :=
  ((But.set gl W i a).trans (But.set gl _ k b)).own r (fun e => by have := (r.lt gl e).1; omega)
end
/-- the word that the reference goes through -/
def refW (x : Wk) : ByteArray := if x.kind = 2 then ⟨#[80]⟩ else x.word
theorem refW_work {s : Mk} {i : Nat} {x : Wk} (h : x.kind = 2 → x.word.size = 0) : s.work i x = s.letters (i : Int) (mkMid x) (refW x).data.toList (refW x).size := by
  unfold Mk.work refW
  by_cases hk : x.kind = 2
  · rw [if_pos hk, if_pos hk, str_len, h hk]; rfl
  · rw [if_neg hk, if_neg hk, str_len]
theorem refW_ok {x : Wk} (h : wOk x.word = true) (hs : x.word.size ≤ 16) : wOk (refW x) = true ∧ (refW x).size ≤ 16 := by
  unfold refW
  split
  · exact ⟨by decide, by decide⟩
  · exact ⟨h, hs⟩
theorem lineL_at0 {m : Nat} (h : 0 < m) : (lineL m)[0]? = some 0 := by
  simp [lineL, h]
theorem crW_P : crW [80] 1 = [] := by decide
/-- what the reference does at a letter ahead of its crossings -/
def Mk.pinIf (s : Mk) (i : Int) (mid : Nat) (c : UInt8) : Mk := if c = 80 then s.pin i mid else s
theorem Mk.letter_pinIf (s : Mk) (i : Int) (mid : Nat) (c : UInt8) : s.letter i mid c = (s.pinIf i mid c).crosses i mid (crW [c] 1) (crW [c] 1).length := by
  unfold Mk.letter Mk.pinIf
  by_cases h : c = 80
  · rw [if_pos h, if_pos h, h, crW_P]; rfl
  · rw [if_neg h, if_neg h]
theorem Mk.pinIf_l (s : Mk) (i : Int) (mid : Nat) (c : UInt8) : (s.pinIf i mid c).l = s.l := by
  unfold Mk.pinIf; split <;> rfl
theorem Mk.pinIf_xs (s : Mk) (i : Int) (mid : Nat) (c : UInt8) : (s.pinIf i mid c).xs = s.xs := by
  unfold Mk.pinIf; split <;> rfl
end Go.Proofs.Ytdimfbmbomgiaaa
