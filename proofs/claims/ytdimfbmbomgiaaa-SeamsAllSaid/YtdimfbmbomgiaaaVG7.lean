/-
  Memory words for cloth.Make: what holds of the cloth's block, the line's block and the two rows between two steps.
-/
import Derived.Test.YtdimfbmbomgiaaaVG6
namespace Go.Proofs.Ytdimfbmbomgiaaa
open Go.RowKit
theorem own_same {w w' : World} {base : Nat} {e : TypeId} {size n : Nat} {v : Value} {xs : List Value} (h : w.ownsRow base e size v n xs) (hs : ∀ g, v.ownBlock = some g → w'.heap[g]? = w.heap[g]?) : w'.ownsRow base e size v n xs := by
  refine ⟨h.1, ?_⟩
  rcases h.2 with hn | ⟨g, cap, cur, rfl, hb, hgg, rest⟩
  · exact .inl hn
  · exact .inr ⟨g, cap, cur, rfl, hb, (hs g rfl).trans hgg, rest⟩
theorem own_mono {w : World} {base base' : Nat} {e : TypeId} {size n : Nat} {v : Value} {xs : List Value} (h : w.ownsRow base e size v n xs) (hb : base' ≤ base) : w.ownsRow base' e size v n xs := by
  refine ⟨h.1, ?_⟩
  rcases h.2 with hn | ⟨g, cap, cur, rfl, hb2, rest⟩
  · exact .inl hn
  · exact .inr ⟨g, cap, cur, rfl, Nat.le_trans hb hb2, rest⟩
/-- V: the world in which the cloth's block was new -/
structure MkI (V W : World) (gc gl bs : Nat) (t : Int) (s : Mk) (X : Option Addr) (nx cx : Nat) (P : Option Addr) (np cp : Nat) : Prop where
  c : Has W gc 49 [.int .i64 t, .slice X nx cx, .slice P np cp]
  g : Has W gl 109 (s.l.map vInt)
  ox : W.ownsRow bs 83 4 (.slice X nx cx) nx (qsC s.xs)
  op : W.ownsRow bs 80 4 (.slice P np cp) np (qsC s.ps)
  b : Below gc V W
  v : gc ≤ V.heap.size
  cl : gc < gl
  ls : gl < bs
  sz : bs ≤ W.heap.size
  nxs : s.xs.length = nx
  nps : s.ps.length = np
/-- a work's own blocks -/
structure MkJ (W : World) (bs gi gw gm : Nat) (i : Int) (x : Wk) (mid : Nat) : Prop where
  i : Has W gi 3 [.int .i64 i]
  w : Has W gw 63 (wkCells x)
  m : Has W gm 3 [.int .i64 (mid : Int)]
  li : bs ≤ gi
  lw : bs ≤ gw
  lm : bs ≤ gm
section
variable {V W W' : World} {gc gl bs : Nat} {t : Int} {s : Mk} {X P : Option Addr} {nx cx np cp : Nat} {gi gw gm : Nat} {i : Int} {x : Wk} {mid : Nat}
theorem MkI.below (h : MkI V W gc gl bs t s X nx cx P np cp) (k : Below W.heap.size W W') : MkI V W' gc gl bs t s X nx cx P np cp :=
  ⟨h.c.below k h.c.lt, h.g.below k h.g.lt, own_below h.ox k, own_below h.op k, h.b.trans (k.mono (Nat.le_of_lt h.c.lt)), h.v, h.cl, h.ls, Nat.le_trans h.sz k.size, h.nxs, h.nps⟩
theorem MkJ.below (h : MkJ W bs gi gw gm i x mid) (k : Below W.heap.size W W') : MkJ W' bs gi gw gm i x mid :=
  ⟨h.i.below k h.i.lt, h.w.below k h.w.lt, h.m.below k h.m.lt, h.li, h.lw, h.lm⟩
theorem MkI.pinned (h : MkI V W gc gl bs t s X nx cx P np cp) {P' : Option Addr} {cp' : Nat} (s' : Mk) (hl : s'.l = s.l) (hx : s'.xs = s.xs) (hn : s'.ps.length = np + 1)
    (hc : Has W' gc 49 [.int .i64 t, .slice X nx cx, .slice P' (np + 1) cp']) (ho : W'.ownsRow bs 80 4 (.slice P' (np + 1) cp') (np + 1) (qsC s'.ps)) (k : KeepP gc (Value.slice P np cp).ownBlock W W') :
    MkI V W' gc gl bs t s' X nx cx P' (np + 1) cp' := by
  have e : ∀ g, g < W.heap.size → g ≠ gc → (Value.slice P np cp).ownBlock ≠ some g → W'.heap[g]? = W.heap[g]? := fun g h1 h2 h3 => k.same g h1 h2 (fun e => h3 e.symm)
  refine ⟨hc, ?_, ?_, ho, ?_, h.v, h.cl, h.ls, Nat.le_trans h.sz k.size, by rw [hx]; exact h.nxs, hn⟩
  · rw [hl]
    exact h.g.same (e gl h.g.lt (by have := h.cl; omega) (h.g.ne_own h.op (by decide)))
  · rw [hx]
    refine own_same h.ox (fun g hg => ?_)
    obtain ⟨h1, h2⟩ := h.ox.lt g hg
    exact e g h2 (by have := h.cl; have := h.ls; omega) (own_apart h.ox h.op (by decide) hg)
  · refine ⟨k.os.trans h.b.os, k.tape.trans h.b.tape, k.output.trans h.b.output, Nat.le_trans h.b.size k.size, fun r hr => ?_⟩
    refine (e r (Nat.lt_trans hr h.c.lt) (by omega) (fun hb => ?_)).trans (h.b.block r hr)
    have := h.op.lt r hb
    have := h.cl; have := h.ls; omega
theorem MkJ.pinned (j : MkJ W bs gi gw gm i x mid) (h : MkI V W gc gl bs t s X nx cx P np cp) (k : KeepP gc (Value.slice P np cp).ownBlock W W') : MkJ W' bs gi gw gm i x mid := by
  have e : ∀ g, g < W.heap.size → bs ≤ g → (Value.slice P np cp).ownBlock ≠ some g → W'.heap[g]? = W.heap[g]? := fun g h1 h2 h3 => k.same g h1 (by have := h.cl; have := h.ls; omega) (fun e => h3 e.symm)
  exact ⟨j.i.same (e gi j.i.lt j.li (j.i.ne_own h.op (by decide))), j.w.same (e gw j.w.lt j.lw (j.w.ne_own h.op (by decide))), j.m.same (e gm j.m.lt j.lm (j.m.ne_own h.op (by decide))), j.li, j.lw, j.lm⟩
/-- a crossing is put behind the row, and the slice into the cloth -/
theorem MkI.crossed (h : MkI V W gc gl bs t s X nx cx P np cp) {X' : Option Addr} {cx' : Nat} (x : Q4) (ho : W'.ownsRow bs 83 4 (.slice X' (nx + 1) cx') (nx + 1) (qsC s.xs ++ q4C x)) (k : W.grownBy W' (Value.slice X nx cx).ownBlock) :
    MkI V (W'.setCell ⟨gc, 1, none⟩ (.slice X' (nx + 1) cx')) gc gl bs t { s with xs := s.xs ++ [x] } X' (nx + 1) cx' P np cp := by
  have e : ∀ g, g < W.heap.size → (Value.slice X nx cx).ownBlock ≠ some g → W'.heap[g]? = W.heap[g]? := fun g h1 h3 => k.block g h1 (fun e => h3 e.symm)
  have hc : Has W' gc _ _ := h.c.same (e gc h.c.lt (h.c.ne_own h.ox (by decide)))
  have hg : Has W' gl _ _ := h.g.same (e gl h.g.lt (h.g.ne_own h.ox (by decide)))
  have hp := h.op.kept k (by cases hv : (Value.slice P np cp).ownBlock with | none => exact .inl rfl | some g => exact .inr (fun e => own_apart h.op h.ox (by decide) hv e.symm))
  have hB := But.set gc W' 1 (.slice X' (nx + 1) cx')
  have hs : W'.heap.size ≤ (W'.setCell ⟨gc, 1, none⟩ (.slice X' (nx + 1) cx')).heap.size := hB.size
  refine ⟨hc.set 1 _, hg.far (by have := h.cl; omega) 1 _, ?_, ?_, ?_, h.v, h.cl, h.ls, Nat.le_trans h.sz (Nat.le_trans k.size hs), by simp [h.nxs], h.nps⟩
  · rw [qsC_app]; exact hB.own ho (hc.ne_own ho (by decide))
  · exact hB.own hp (hc.ne_own hp (by decide))
  · refine (h.b.grown k (Nat.le_of_lt h.c.lt) (fun r hr => ?_)).setCell (Nat.le_refl _) _
    have := (h.ox.lt r hr).1; have := h.cl; have := h.ls; omega
theorem MkJ.crossed (j : MkJ W bs gi gw gm i x mid) (h : MkI V W gc gl bs t s X nx cx P np cp) (k : W.grownBy W' (Value.slice X nx cx).ownBlock) (u : Value) : MkJ (W'.setCell ⟨gc, 1, none⟩ u) bs gi gw gm i x mid := by
  have e : ∀ g, g < W.heap.size → (Value.slice X nx cx).ownBlock ≠ some g → W'.heap[g]? = W.heap[g]? := fun g h1 h3 => k.block g h1 (fun e => h3 e.symm)
  have n : ∀ g, bs ≤ g → g ≠ gc := fun g hg => by have := h.cl; have := h.ls; omega
  exact ⟨(j.i.same (e gi j.i.lt (j.i.ne_own h.ox (by decide)))).far (n gi j.li) 1 _, (j.w.same (e gw j.w.lt (j.w.ne_own h.ox (by decide)))).far (n gw j.lw) 1 _, (j.m.same (e gm j.m.lt (j.m.ne_own h.ox (by decide)))).far (n gm j.lm) 1 _, j.li, j.lw, j.lm⟩
theorem MkI.swapped (h : MkI V W gc gl bs t s X nx cx P np cp) (l' : List Int) (hg : Has W' gl 109 (l'.map vInt)) (k : KeepC gl W W') : MkI V W' gc gl bs t { s with l := l' } X nx cx P np cp := by
  refine ⟨h.c.same (k.same gc h.c.lt (by have := h.cl; omega)), hg, ?_, ?_, ?_, h.v, h.cl, h.ls, Nat.le_trans h.sz k.size, h.nxs, h.nps⟩
  · exact own_same h.ox (fun g hg => k.same g (h.ox.lt g hg).2 (by have := (h.ox.lt g hg).1; have := h.ls; omega))
  · exact own_same h.op (fun g hg => k.same g (h.op.lt g hg).2 (by have := (h.op.lt g hg).1; have := h.ls; omega))
  · exact h.b.trans (keepC_below k (by have := h.cl; omega) (Nat.le_of_lt h.c.lt))
theorem MkJ.swapped (j : MkJ W bs gi gw gm i x mid) (h : MkI V W gc gl bs t s X nx cx P np cp) (k : KeepC gl W W') : MkJ W' bs gi gw gm i x mid := by
  have n : ∀ g, bs ≤ g → g ≠ gl := fun g hg => by have := h.ls; omega
  exact ⟨j.i.same (k.same gi j.i.lt (n gi j.li)), j.w.same (k.same gw j.w.lt (n gw j.lw)), j.m.same (k.same gm j.m.lt (n gm j.lm)), j.li, j.lw, j.lm⟩
end
/-! ### counts -/
theorem crT_len (v : List Int) : ∀ k, (crT v k).length ≤ k
  | 0 => Nat.le_refl _
  | k + 1 => by
    have := crT_len v k
    unfold crT
    split <;> simp <;> omega
theorem crW_len (bs : List UInt8) : ∀ i, (crW bs i).length ≤ 3 * i
  | 0 => Nat.le_refl _
  | i + 1 => by
    have := crW_len bs i
    unfold crW
    split
    · have := crT_len (twV ‹UInt8›) 3
      rw [List.length_append]; omega
    · omega
theorem crT_mem {v : List Int} (hv : ∀ u ∈ v, -1 ≤ u ∧ u ≤ 1) : ∀ k, k ≤ 3 → ∀ n ∈ crT v k, n ≠ 0 ∧ -3 ≤ n ∧ n ≤ 3
  | 0, _, n, h => by simp [crT] at h
  | k + 1, hk, n, h => by
    unfold crT at h
    split at h
    · exact crT_mem hv k (by omega) n h
    · rename_i h0
      rw [List.mem_append] at h
      rcases h with h | h
      · exact crT_mem hv k (by omega) n h
      · simp only [List.mem_singleton] at h
        have hb : -1 ≤ v.getD k 0 ∧ v.getD k 0 ≤ 1 := by
          rw [List.getD_eq_getElem?_getD]
          cases hg : v[k]? with
          | none => simp
          | some u => exact hv u (mem_of_get hg)
        generalize v.getD k 0 = u at *
        have hu : u = 1 ∨ u = -1 := by omega
        rcases hu with rfl | rfl <;> omega
theorem crL_mem (c : UInt8) : ∀ n ∈ crW [c] 1, n ≠ 0 ∧ -3 ≤ n ∧ n ≤ 3 := fun n h => by
  have e : crW [c] 1 = crT (twV c) 3 := rfl
  rw [e] at h
  exact crT_mem (twV_le c) 3 (Nat.le_refl _) n h
theorem Mk.crosses_xs (s : Mk) (i : Int) (mid : Nat) (ns : List Int) : ∀ k, (s.crosses i mid ns k).xs.length ≤ s.xs.length + k
  | 0 => Nat.le_refl _
  | k + 1 => by
    have := Mk.crosses_xs s i mid ns k
    unfold Mk.crosses
    split
    · unfold Mk.cross; simp; omega
    · omega
theorem Mk.crosses_ps (s : Mk) (i : Int) (mid : Nat) (ns : List Int) : ∀ k, (s.crosses i mid ns k).ps = s.ps
  | 0 => rfl
  | k + 1 => by
    unfold Mk.crosses
    split
    · exact Mk.crosses_ps s i mid ns k
    · exact Mk.crosses_ps s i mid ns k
theorem Mk.letter_xs (s : Mk) (i : Int) (mid : Nat) (c : UInt8) : (s.letter i mid c).xs.length ≤ s.xs.length + 3 := by
  unfold Mk.letter
  split
  · exact Nat.le_add_right _ _
  · have := Mk.crosses_xs s i mid (crW [c] 1) (crW [c] 1).length
    have := crW_len [c] 1
    omega
theorem Mk.letter_ps (s : Mk) (i : Int) (mid : Nat) (c : UInt8) : (s.letter i mid c).ps.length ≤ s.ps.length + 1 := by
  unfold Mk.letter
  split
  · unfold Mk.pin; simp
  · rw [Mk.crosses_ps]; exact Nat.le_succ _
theorem Mk.letters_xs (s : Mk) (i : Int) (mid : Nat) (bs : List UInt8) : ∀ k, (s.letters i mid bs k).xs.length ≤ s.xs.length + 3 * k
  | 0 => Nat.le_refl _
  | k + 1 => by
    have := Mk.letters_xs s i mid bs k
    unfold Mk.letters
    split
    · have := Mk.letter_xs (s.letters i mid bs k) i mid ‹UInt8›; omega
    · omega
theorem Mk.letters_ps (s : Mk) (i : Int) (mid : Nat) (bs : List UInt8) : ∀ k, (s.letters i mid bs k).ps.length ≤ s.ps.length + k
  | 0 => Nat.le_refl _
  | k + 1 => by
    have := Mk.letters_ps s i mid bs k
    unfold Mk.letters
    split
    · have := Mk.letter_ps (s.letters i mid bs k) i mid ‹UInt8›; omega
    · omega
theorem Mk.works_xs {ws : List Wk} (h : ∀ x ∈ ws, x.word.size ≤ 16) : ∀ k, (Mk.works ws k).xs.length ≤ 48 * k ∧ (Mk.works ws k).ps.length ≤ 17 * k
  | 0 => ⟨Nat.le_refl _, Nat.le_refl _⟩
  | k + 1 => by
    have ih := Mk.works_xs h k
    unfold Mk.works
    split
    · rename_i x hx
      have h16 : x.word.data.toList.length ≤ 16 := by rw [str_len]; exact h x (mem_of_get hx)
      unfold Mk.work
      split
      · have h1 := Mk.letters_xs ((Mk.works ws k).pin (k : Int) (mkMid x)) (k : Int) (mkMid x) x.word.data.toList x.word.data.toList.length
        have h2 := Mk.letters_ps ((Mk.works ws k).pin (k : Int) (mkMid x)) (k : Int) (mkMid x) x.word.data.toList x.word.data.toList.length
        have e1 : ((Mk.works ws k).pin (k : Int) (mkMid x)).xs.length = (Mk.works ws k).xs.length := rfl
        have e2 : ((Mk.works ws k).pin (k : Int) (mkMid x)).ps.length = (Mk.works ws k).ps.length + 1 := by unfold Mk.pin; simp
        omega
      · have h1 := Mk.letters_xs (Mk.works ws k) (k : Int) (mkMid x) x.word.data.toList x.word.data.toList.length
        have h2 := Mk.letters_ps (Mk.works ws k) (k : Int) (mkMid x) x.word.data.toList x.word.data.toList.length
        omega
    · omega
theorem Mk.works_succ {ws : List Wk} {k : Nat} {x : Wk} (h : ws[k]? = some x) : Mk.works ws (k + 1) = (Mk.works ws k).work k x := by
  show (match ws[k]? with | some x => (Mk.works ws k).work k x | none => Mk.works ws k) = _
  rw [h]
theorem Mk.letters_succ {s : Mk} {i : Int} {mid : Nat} {bs : List UInt8} {k : Nat} {c : UInt8} (h : bs[k]? = some c) : s.letters i mid bs (k + 1) = (s.letters i mid bs k).letter i mid c := by
  show (match bs[k]? with | some c => (s.letters i mid bs k).letter i mid c | none => s.letters i mid bs k) = _
  rw [h]
theorem Mk.crosses_succ {s : Mk} {i : Int} {mid : Nat} {ns : List Int} {k : Nat} {n : Int} (h : ns[k]? = some n) : s.crosses i mid ns (k + 1) = (s.crosses i mid ns k).cross i mid n := by
  show (match ns[k]? with | some n => (s.crosses i mid ns k).cross i mid n | none => s.crosses i mid ns k) = _
  rw [h]
theorem Mk.pin_eq {s : Mk} {i : Int} {mid : Nat} {la lb : Int} (ha : s.l[mid]? = some la) (hb : s.l[mid + 1]? = some lb) : s.pin i mid = { s with ps := s.ps ++ [⟨i, (mid : Int), la, lb⟩] } := by
  unfold Mk.pin
  rw [List.getD_eq_getElem?_getD, List.getD_eq_getElem?_getD, ha, hb]; rfl
theorem pinMk {V W : World} {gc gl bs : Nat} {t : Int} {s : Mk} {X P : Option Addr} {nx cx np cp : Nat} {gi gw gm : Nat} {i : Int} {x : Wk} {mid : Nat} (h : MkI V W gc gl bs t s X nx cx P np cp) (j : MkJ W bs gi gw gm i x mid) (hl : s.l.length = 48) (hmid : mid + 1 < 48) (hnp : np ≤ 1000000) :
    Calls Try.prog 63 #[.pointer (some ⟨gc, 0, none⟩), .pointer (some ⟨gi, 0, none⟩), .pointer (some ⟨gm, 0, none⟩), .pointer (some ⟨gl, 0, none⟩)] W fun e w' => (∃ v, e = .returned v) ∧ ∃ P' c', MkI V w' gc gl bs t (s.pin i mid) X nx cx P' (np + 1) c' ∧ MkJ w' bs gi gw gm i x mid := by
  obtain ⟨la, ha⟩ := get_of_lt (l := s.l) (k := mid) (by omega)
  obtain ⟨lb, hb⟩ := get_of_lt (l := s.l) (k := mid + 1) (by omega)
  have h1 := h.cl; have h2 := h.ls; have h3 := j.li; have h4 := j.lm
  refine (pin38 gc gi gm gl mid np cp bs i la lb _ _ P s.ps _ W h.c j.i j.m h.g (by rw [List.getElem?_map, ha]; rfl) (by rw [List.getElem?_map, hb]; rfl) hmid h.op hnp h.sz (by omega) (by omega) (by omega)).mono ?_
  rintro e w' ⟨hv, P', c', hc, ho, hk⟩
  refine ⟨hv, P', c', h.pinned _ rfl rfl ?_ hc ?_ hk, j.pinned h hk⟩
  · unfold Mk.pin; simp [h.nps]
  · rw [Mk.pin_eq ha hb]; exact ho
theorem slice1 (s : ByteArray) (j : Nat) (h : j < s.size) (W : World) : (Instr.slice 9 (.string s) (some (.int .i64 (j : Int))) (some (.int .i64 ((j : Int) + 1))) none).run Try.prog W = .ok (.string (s.extract j (j + 1))) W := by
  have e := run_slice_string (P := Try.prog) (w := W) 9 s .i64 .i64 (j : Int) ((j : Int) + 1) Try.underlying9 (by omega) (by omega) (by omega)
  rw [e]
  have h1 : ((j : Int)).toNat = j := by omega
  have h2 : ((j : Int) + 1).toNat = j + 1 := by omega
  rw [h1, h2]
theorem ext_ok {s : ByteArray} {j : Nat} (h : j < s.size) (hl : isLet s[j] = true) : (s.extract j (j + 1)).size = 1 ∧ wOk (s.extract j (j + 1)) = true := by
  have e := ext_one s j h
  refine ⟨?_, ?_⟩
  · rw [← str_len, e]; rfl
  · unfold wOk; rw [e]; simp [hl]
/-- the row of a letter's crossings -/
theorem row_crossed {V W W' : World} {gc gl bs : Nat} {t : Int} {s : Mk} {X P : Option Addr} {nx cx np cp n : Nat} {v : Value} {ys : List Value} (r : W.ownsRow bs 3 1 v n ys) (h : MkI V W gc gl bs t s X nx cx P np cp) (k : W.grownBy W' (Value.slice X nx cx).ownBlock) (u : Value) : (W'.setCell ⟨gc, 1, none⟩ u).ownsRow bs 3 1 v n ys := by
  have h1 := r.kept k (by cases hv : v.ownBlock with | none => exact .inl rfl | some g => exact .inr (fun e => own_apart r h.ox (by decide) hv e.symm))
  have hc : Has W' gc _ _ := h.c.same (k.block gc h.c.lt (fun e => (h.c.ne_own h.ox (by decide)) e.symm))
  exact (But.set gc W' 1 u).own h1 (hc.ne_own h1 (by decide))
theorem row_swapped {V W W' : World} {gc gl bs : Nat} {t : Int} {s : Mk} {X P : Option Addr} {nx cx np cp n : Nat} {v : Value} {ys : List Value} (r : W.ownsRow bs 3 1 v n ys) (h : MkI V W gc gl bs t s X nx cx P np cp) (k : KeepC gl W W') : W'.ownsRow bs 3 1 v n ys :=
  own_same r (fun g hg => k.same g (r.lt g hg).2 (by have := (r.lt g hg).1; have := h.ls; omega))
set_option maxRecDepth 100000 in
theorem crossings39o (s : ByteArray) (w : World) (hs : s.size ≤ 16) (hok : wOk s = true) :
    Calls Try.prog 64 #[.string s] w fun e w' => ∃ A n c, e = .returned (.tuple #[.slice A n c, .int .i64 0]) ∧ w'.ownsRow w.heap.size 3 1 (.slice A n c) n ((crW s.data.toList s.size).map vInt) ∧ (crW s.data.toList s.size).length = n ∧ Below w.heap.size w w' := by
  have C1 := Lib.hid (stCheck s w (by omega))
  rw [wchk_ok hs hok] at C1
  have C2 := Lib.hid (crossings62 s w hs hok)
  clear hok
  go_enter Try.func64, Try.ntmps64
  go_wp2_with fail
  refine C1.out.mono ?_
  rintro e w' ⟨rfl, rfl⟩
  go_wp2_with fail
  refine C2.out.mono ?_
  rintro e w2 ⟨A2, n2, c2, rfl, r2, l2, hb2⟩
  have HR := Lib.hid r2; clear r2
  go_wp2
  go_ret2
  exact ⟨A2, n2, c2, rfl, HR.out, l2, hb2⟩
theorem Mk.cross_eq {s : Mk} {i : Int} {mid t : Nat} {u la lb : Int} (h : mkAt mid u = (t : Int)) (ha : s.l[t]? = some la) (hb : s.l[t + 1]? = some lb) : s.cross i mid u = ⟨(s.l.set t lb).set (t + 1) la, s.xs ++ [if u < 0 then ⟨i, (t : Int), lb, la⟩ else ⟨i, (t : Int), la, lb⟩], s.ps⟩ := by
  have ht : ((t : Nat) : Int).toNat = t := by simp
  have e : mkX s.l i mid u = if u < 0 then ⟨i, (t : Int), lb, la⟩ else ⟨i, (t : Int), la, lb⟩ := by
    unfold mkX
    rw [h, ht, List.getD_eq_getElem?_getD, List.getD_eq_getElem?_getD, ha, hb]; rfl
  have e2 : (mkX s.l i mid u).b = (t : Int) := by rw [e]; split <;> rfl
  unfold Mk.cross swapL
  rw [e2, ht, List.getD_eq_getElem?_getD, List.getD_eq_getElem?_getD, ha, hb, e]; rfl
theorem news4 (w : World) (a b c d : Value) (t : TypeId) : ∀ j u, ([a, b, c, d] : List Value)[j]? = some u → (w.alloc (.cells #[a, b, c, d] t)).cell? ⟨w.heap.size, j, none⟩ = some u := fun j _ hu => ((Has.new (w := w) (t := t) (cs := [a, b, c, d]) rfl).cell j).trans hu
theorem one4 (a b c d : Int) : ∀ u ∈ [vInt a, vInt b, vInt c, vInt d], u.oneCell' = true := fun u hu => by
  simp only [List.mem_cons, List.not_mem_nil, or_false] at hu
  rcases hu with rfl | rfl | rfl | rfl <;> rfl
theorem infoCr : (Try.prog.info? 83).map (fun i => (i.zero, i.size, i.bytes)) = some (some (.agg #[.int .i64 0, .int .i64 0, .int .i64 0, .int .i64 0]), 4, 32) := by kernel_rfl
end Go.Proofs.Ytdimfbmbomgiaaa
/-
  Plain law: a cloth that is made is valid; its line is that of its crossings; two threads have exchanged their order exactly if they meet an odd number of times.
-/
namespace Go.Proofs.Ytdimfbmbomgiaaa
open Go.RowKit
/-- what holds at the start, and is kept by pins and crossings within T places, holds of what a sheet makes -/
theorem Mk.crosses_ind {T : Nat} {Q : Mk → Prop} (hc : ∀ s i mid n t, 0 ≤ i → mkAt mid n = ((t : Nat) : Int) → t + 1 < T → Q s → Q (s.cross i mid n)) {s : Mk} {i : Int} {mid : Nat} (hi : 0 ≤ i) (h1 : 1 ≤ mid) (h2 : mid + 2 < T) {ns : List Int} (hn : ∀ n ∈ ns, n ≠ 0 ∧ -3 ≤ n ∧ n ≤ 3) (hq : Q s) : ∀ k, Q (s.crosses i mid ns k)
  | 0 => hq
  | k + 1 => by
    have ih := Mk.crosses_ind hc hi h1 h2 hn hq k
    unfold Mk.crosses
    split
    · rename_i n hx
      obtain ⟨n0, n1, n2⟩ := hn n (mem_of_get hx)
      obtain ⟨t, ht⟩ : ∃ t : Nat, mkAt mid n = (t : Int) := Int.eq_ofNat_of_zero_le (by unfold mkAt; split <;> omega)
      exact hc _ i mid n t hi ht (by unfold mkAt at ht; split at ht <;> omega) ih
    · exact ih
theorem Mk.letters_ind {T : Nat} {Q : Mk → Prop} (hp : ∀ s i mid, 0 ≤ i → mid + 1 < T → Q s → Q (s.pin i mid)) (hc : ∀ s i mid n t, 0 ≤ i → mkAt mid n = ((t : Nat) : Int) → t + 1 < T → Q s → Q (s.cross i mid n)) {s : Mk} {i : Int} {mid : Nat} (hi : 0 ≤ i) (h1 : 1 ≤ mid) (h2 : mid + 2 < T) {bs : List UInt8} (hq : Q s) : ∀ k, Q (s.letters i mid bs k)
  | 0 => hq
  | k + 1 => by
    have ih := Mk.letters_ind hp hc hi h1 h2 (bs := bs) hq k
    unfold Mk.letters
    split
    · rename_i c hx
      unfold Mk.letter
      split
      · exact hp _ i mid hi (by omega) ih
      · exact Mk.crosses_ind hc hi h1 h2 (crL_mem c) ih _
    · exact ih
theorem Mk.works_ind {p : Int} {ws : List Wk} (hok : SOk p ws) {Q : Mk → Prop} (hp : ∀ s i mid, 0 ≤ i → mid + 1 < (2 * p).toNat → Q s → Q (s.pin i mid)) (hc : ∀ s i mid n t, 0 ≤ i → mkAt mid n = ((t : Nat) : Int) → t + 1 < (2 * p).toNat → Q s → Q (s.cross i mid n)) (h0 : Q ⟨lineL 48, [], []⟩) : ∀ k, Q (Mk.works ws k)
  | 0 => h0
  | k + 1 => by
    have ih := Mk.works_ind hok hp hc h0 k
    unfold Mk.works
    split
    · rename_i x hx
      obtain ⟨_, a0, a1, _⟩ := bad_at (hok.good x (mem_of_get hx))
      have h1 : 1 ≤ mkMid x := by unfold mkMid; omega
      have h2 : mkMid x + 2 < (2 * p).toNat := by unfold mkMid; omega
      unfold Mk.work
      refine Mk.letters_ind hp hc (Int.natCast_nonneg k) h1 h2 ?_ _
      split
      · exact hp _ _ _ (Int.natCast_nonneg k) (by omega) ih
      · exact ih
    · exact ih
/-- two neighbours exchanged -/
def tr (t i : Nat) : Nat := if i = t then t + 1 else if i = t + 1 then t else i
theorem set2_get {l : List Int} {t : Nat} {a b : Int} (ha : l[t]? = some a) (hb : l[t + 1]? = some b) (i : Nat) : ((l.set t b).set (t + 1) a)[i]? = l[tr t i]? := by
  have h1 := lt_of_get ha
  have h2 := lt_of_get hb
  unfold tr
  rw [List.getElem?_set, List.getElem?_set, List.length_set]
  by_cases e1 : i = t
  · subst e1; rw [if_neg (by omega), if_pos rfl, if_pos h1, if_pos rfl, hb]
  · by_cases e2 : i = t + 1
    · subst e2; rw [if_pos rfl, if_pos h2, if_neg e1, if_pos rfl, ha]
    · rw [if_neg (by omega), if_neg (by omega), if_neg e1, if_neg e2]
theorem tr_a (t : Nat) : tr t t = t + 1 := by unfold tr; rw [if_pos rfl]
theorem tr_b (t : Nat) : tr t (t + 1) = t := by unfold tr; rw [if_neg (by omega), if_pos rfl]
theorem tr_c {t i : Nat} (h1 : i ≠ t) (h2 : i ≠ t + 1) : tr t i = i := by unfold tr; rw [if_neg h1, if_neg h2]
theorem tr_cases (t i : Nat) : (i = t ∧ tr t i = t + 1) ∨ (i = t + 1 ∧ tr t i = t) ∨ (i ≠ t ∧ i ≠ t + 1 ∧ tr t i = i) := by
  by_cases h1 : i = t
  · subst h1; exact .inl ⟨rfl, tr_a _⟩
  · by_cases h2 : i = t + 1
    · subst h2; exact .inr (.inl ⟨rfl, tr_b _⟩)
    · exact .inr (.inr ⟨h1, h2, tr_c h1 h2⟩)
theorem tr_tr (t i : Nat) : tr t (tr t i) = i := by
  rcases tr_cases t i with ⟨h, e⟩ | ⟨h, e⟩ | ⟨h1, h2, e⟩
  · rw [e, tr_b, h]
  · rw [e, tr_a, h]
  · rw [e, e]
theorem tr_lt {t i T : Nat} (ht : t + 1 < T) (hi : i < T) : tr t i < T := by
  rcases tr_cases t i with ⟨h, e⟩ | ⟨h, e⟩ | ⟨h1, h2, e⟩ <;> omega
theorem endsTo_app (xs : List Q4) (x : Q4) (L : List Int) : ∀ k, k ≤ xs.length → endsTo (xs ++ [x]) L k = endsTo xs L k
  | 0, _ => rfl
  | k + 1, hk => by
    show (endsTo (xs ++ [x]) L k).bind _ = (endsTo xs L k).bind _
    rw [endsTo_app xs x L k (by omega), List.getElem?_append_left (by omega)]
theorem lineTo_app (xs : List Q4) (x : Q4) (L : List Int) : ∀ k, k ≤ xs.length → lineTo (xs ++ [x]) L k = lineTo xs L k
  | 0, _ => rfl
  | k + 1, hk => by
    unfold lineTo
    rw [lineTo_app xs x L k (by omega), List.getElem?_append_left (by omega)]
structure MkG (T : Nat) (s : Mk) : Prop where
  len : s.l.length = 48
  rng : ∀ i, i < T → ∃ v, s.l[i]? = some v ∧ 0 ≤ v ∧ v < (T : Int)
  inj : ∀ i j v, i < T → j < T → s.l[i]? = some v → s.l[j]? = some v → i = j
  sur : ∀ v : Nat, v < T → ∃ i, i < T ∧ s.l[i]? = some (v : Int)
  xs : ∀ x ∈ s.xs, okC T x = true
  ps : ∀ x ∈ s.ps, okP T x = true
  ends : endsTo s.xs (lineL T) s.xs.length = some (s.l.take T)
  line : lineTo s.xs (lineL 48) s.xs.length = s.l
theorem lineL_get {n i : Nat} (h : i < n) : (lineL n)[i]? = some (i : Int) := by simp [lineL, h]
theorem MkG.start {T : Nat} (h : T ≤ 48) : MkG T ⟨lineL 48, [], []⟩ where
  len := lineL_len 48
  rng := fun i hi => ⟨(i : Int), lineL_get (by omega), by omega, by omega⟩
  inj := fun i j v hi hj h1 h2 => by
    rw [lineL_get (by omega)] at h1 h2
    injection h1 with h1; injection h2 with h2; omega
  sur := fun v hv => ⟨v, hv, lineL_get (by omega)⟩
  xs := by simp
  ps := by simp
  ends := by show some _ = some _; rw [lineL_take T h]
  line := rfl
theorem MkG.pin {T : Nat} {s : Mk} (h : MkG T s) (i : Int) (mid : Nat) (hi : 0 ≤ i) (hm : mid + 1 < T) : MkG T (s.pin i mid) := by
  obtain ⟨la, ha, a0, a1⟩ := h.rng mid (by omega)
  obtain ⟨lb, hb, b0, b1⟩ := h.rng (mid + 1) hm
  have hne : la ≠ lb := fun e => by
    have := h.inj mid (mid + 1) la (by omega) hm ha (e ▸ hb)
    omega
  refine ⟨h.len, h.rng, h.inj, h.sur, h.xs, ?_, h.ends, h.line⟩
  rw [Mk.pin_eq ha hb]
  intro x hx
  rcases List.mem_append.1 hx with hx | hx
  · exact h.ps x hx
  · obtain rfl : x = ⟨i, (mid : Int), la, lb⟩ := by simpa using hx
    unfold okP
    have e : (la == lb) = false := by simpa using hne
    rw [e]
    simp
    omega
theorem MkG.cross {T : Nat} {s : Mk} (h : MkG T s) (_hT : T ≤ 48) (i : Int) (mid : Nat) (n : Int) (t : Nat) (hi : 0 ≤ i) (ht : mkAt mid n = (t : Int)) (htT : t + 1 < T) : MkG T (s.cross i mid n) := by
  obtain ⟨la, ha, a0, a1⟩ := h.rng t (by omega)
  obtain ⟨lb, hb, b0, b1⟩ := h.rng (t + 1) htT
  rw [Mk.cross_eq ht ha hb]
  obtain ⟨x, hx⟩ : ∃ x, x = (if n < 0 then (⟨i, (t : Int), lb, la⟩ : Q4) else ⟨i, (t : Int), la, lb⟩) := ⟨_, rfl⟩
  rw [← hx]
  have xa : x.a = i := by rw [hx]; split <;> rfl
  have xb : x.b = (t : Int) := by rw [hx]; split <;> rfl
  have xb2 : x.b.toNat = t := by rw [xb]; simp
  have hl := h.len
  have hlen : (s.xs ++ [x]).length = s.xs.length + 1 := by simp
  have hte : endOk la lb x = true := by rw [hx]; unfold endOk; split <;> simp
  refine ⟨by simp [hl], ?_, ?_, ?_, ?_, h.ps, ?_, ?_⟩
  · intro j hj
    simp only [set2_get ha hb]
    exact h.rng _ (tr_lt htT hj)
  · intro j k v hj hk h1 h2
    simp only [set2_get ha hb] at h1 h2
    have := h.inj _ _ v (tr_lt htT hj) (tr_lt htT hk) h1 h2
    have e := congrArg (tr t) this
    rwa [tr_tr, tr_tr] at e
  · intro v hv
    obtain ⟨j, hj, hg⟩ := h.sur v hv
    exact ⟨tr t j, tr_lt htT hj, by simp only [set2_get ha hb, tr_tr]; exact hg⟩
  · intro y hy
    rcases List.mem_append.1 hy with hy | hy
    · exact h.xs y hy
    · obtain rfl : y = x := by simpa using hy
      unfold okC; rw [xa, xb]; simp; omega
  · show endsTo (s.xs ++ [x]) (lineL T) (s.xs ++ [x]).length = _
    rw [hlen]
    rw [endsTo_succ (L' := s.l.take T) (by rw [endsTo_app _ _ _ _ (Nat.le_refl _)]; exact h.ends) List.getElem?_concat_length]
    rw [endStep_get xb2 (by rw [List.getElem?_take, if_pos (by omega)]; exact ha) (by rw [List.getElem?_take, if_pos htT]; exact hb), hte, if_pos rfl, List.take_set, List.take_set]
  · show lineTo (s.xs ++ [x]) (lineL 48) (s.xs ++ [x]).length = _
    rw [hlen, lineTo_succ List.getElem?_concat_length]
    rw [lineTo_app _ _ _ _ (Nat.le_refl _), h.line]
    unfold swapL
    rw [xb2, List.getD_eq_getElem?_getD, List.getD_eq_getElem?_getD, ha, hb]; rfl
theorem MkG.works {p : Int} {ws : List Wk} (hok : SOk p ws) (k : Nat) : MkG (2 * p).toNat (Mk.works ws k) :=
  Mk.works_ind hok (fun s i mid hi hm h => h.pin i mid hi hm) (fun s i mid n t hi ht htT h => h.cross (by have := hok.le; omega) i mid n t hi ht htT) (MkG.start (by have := hok.le; omega)) k
/-- pins: at most as many as letters, or one -/
theorem Mk.works_ps {p : Int} {ws : List Wk} (hok : SOk p ws) : ∀ k, (Mk.works ws k).ps.length ≤ 16 * k
  | 0 => Nat.le_refl _
  | k + 1 => by
    have ih := Mk.works_ps hok k
    unfold Mk.works
    split
    · rename_i x hx
      obtain ⟨_, _, _, hk⟩ := bad_at (hok.good x (mem_of_get hx))
      have h16 : x.word.data.toList.length ≤ 16 := by rw [str_len]; exact hok.short x (mem_of_get hx)
      unfold Mk.work
      split
      · rename_i h2
        have h0 : x.word.data.toList.length = 0 := by rw [str_len]; exact hk h2
        rw [h0]
        show ((Mk.works ws k).pin (k : Int) (mkMid x)).ps.length ≤ _
        unfold Mk.pin
        simp
        omega
      · have := Mk.letters_ps (Mk.works ws k) (k : Int) (mkMid x) x.word.data.toList x.word.data.toList.length
        omega
    · omega
theorem Mk.valid {p : Int} {ws : List Wk} (hok : SOk p ws) (k : Nat) (hk : k ≤ ws.length) : ckE (2 * p) (Mk.works ws k).xs (Mk.works ws k).ps = 0 := by
  have G := MkG.works hok k
  obtain ⟨h1, h2⟩ := Mk.works_xs hok.short k
  have h3 := Mk.works_ps hok k
  have hl := hok.len
  have hle := hok.le
  have hge := hok.ge
  have hT : (((2 * p).toNat : Nat) : Int) = 2 * p := by omega
  have e1 : numsOk (2 * p) (Mk.works ws k).xs (Mk.works ws k).ps = true := by
    unfold numsOk
    have a1 : (Mk.works ws k).xs.all (okC (2 * p)) = true := List.all_eq_true.2 (fun x hx => by have := G.xs x hx; rwa [hT] at this)
    have a2 : (Mk.works ws k).ps.all (okP (2 * p)) = true := List.all_eq_true.2 (fun x hx => by have := G.ps x hx; rwa [hT] at this)
    rw [a1, a2, decide_eq_true (by omega)]; rfl
  have e2 : endsOk (2 * p) (Mk.works ws k).xs = true := by unfold endsOk; rw [G.ends]; rfl
  unfold ckE
  rw [if_neg (by omega), if_neg (by rw [e1]; decide), if_neg (by rw [e2]; decide)]
theorem Mk.endsR {p : Int} {ws : List Wk} (hok : SOk p ws) (k : Nat) (hk : k ≤ ws.length) : endsR (2 * p) (Mk.works ws k).xs (Mk.works ws k).ps = (Mk.works ws k).l.take (2 * p).toNat := by
  unfold Go.Proofs.Ytdimfbmbomgiaaa.endsR
  rw [if_pos (Mk.valid hok k hk), (MkG.works hok k).line]
/-! ### two threads -/
def meetC (xs : List Q4) (a b : Int) : Nat := xs.countP (fun x => [a, b].all (ofP x))
theorem ofTo_len (xs : List Q4) (ths : List Int) : ∀ k, k ≤ xs.length → (ofTo xs ths k).length = (xs.take k).countP (fun x => ths.all (ofP x))
  | 0, _ => by simp [ofTo]
  | k + 1, hk => by
    obtain ⟨x, hx⟩ := get_of_lt (l := xs) (k := k) (by omega)
    have ih := ofTo_len xs ths k (by omega)
    rw [List.take_add_one, hx, List.countP_append]
    cases h : ths.all (ofP x) with
    | true => rw [ofTo_yes hx h, List.length_append, ih]; simp [h]
    | false => rw [ofTo_no hx h, ih]; simp [h]
/-- the order of two threads, and how often they have met -/
def MkO (T : Nat) (a b : Int) (s : Mk) : Prop := ∀ i j, i < T → j < T → s.l[i]? = some a → s.l[j]? = some b → (i < j ↔ (a < b ↔ meetC s.xs a b % 2 = 0))
theorem MkO.cross {T : Nat} {a b : Int} {s : Mk} (G : MkG T s) (h : MkO T a b s) (hab : a ≠ b) (i : Int) (mid : Nat) (n : Int) (t : Nat) (ht : mkAt mid n = (t : Int)) (htT : t + 1 < T) : MkO T a b (s.cross i mid n) := by
  obtain ⟨la, ha, _, _⟩ := G.rng t (by omega)
  obtain ⟨lb, hb, _, _⟩ := G.rng (t + 1) htT
  rw [Mk.cross_eq ht ha hb]
  obtain ⟨x, hx⟩ : ∃ x, x = (if n < 0 then (⟨i, (t : Int), lb, la⟩ : Q4) else ⟨i, (t : Int), la, lb⟩) := ⟨_, rfl⟩
  rw [← hx]
  intro u v hu hv h1 h2
  simp only [set2_get ha hb] at h1 h2
  have H := h _ _ (tr_lt htT hu) (tr_lt htT hv) h1 h2
  have hm : meetC (s.xs ++ [x]) a b = meetC s.xs a b + if [a, b].all (ofP x) = true then 1 else 0 := by
    unfold meetC; rw [List.countP_append, List.countP_singleton]
  have hcd : (x.c = la ∧ x.d = lb) ∨ (x.c = lb ∧ x.d = la) := by rw [hx]; split <;> simp
  show u < v ↔ (a < b ↔ meetC (s.xs ++ [x]) a b % 2 = 0)
  rw [hm]
  by_cases hmeet : (la = a ∧ lb = b) ∨ (la = b ∧ lb = a)
  · have hall : [a, b].all (ofP x) = true := by
      unfold ofP
      rcases hcd with ⟨e1, e2⟩ | ⟨e1, e2⟩ <;> rcases hmeet with ⟨e3, e4⟩ | ⟨e3, e4⟩ <;> simp [e1, e2, e3, e4]
    rw [if_pos hall]
    rcases hmeet with ⟨e3, e4⟩ | ⟨e3, e4⟩
    · rw [e3] at ha; rw [e4] at hb
      have p1 := G.inj _ _ _ (tr_lt htT hu) (show t < T by omega) h1 ha
      have p2 := G.inj _ _ _ (tr_lt htT hv) htT h2 hb
      have q1 : u = t + 1 := by have := congrArg (tr t) p1; rw [tr_tr] at this; rw [this]; first | exact tr_a _ | exact tr_b _
      have q2 : v = t := by have := congrArg (tr t) p2; rw [tr_tr] at this; rw [this]; first | exact tr_a _ | exact tr_b _
      rw [p1, p2] at H
      subst q1 q2
      omega
    · rw [e3] at ha; rw [e4] at hb
      have p1 := G.inj _ _ _ (tr_lt htT hu) htT h1 hb
      have p2 := G.inj _ _ _ (tr_lt htT hv) (show t < T by omega) h2 ha
      have q1 : u = t := by have := congrArg (tr t) p1; rw [tr_tr] at this; rw [this]; first | exact tr_a _ | exact tr_b _
      have q2 : v = t + 1 := by have := congrArg (tr t) p2; rw [tr_tr] at this; rw [this]; first | exact tr_a _ | exact tr_b _
      rw [p1, p2] at H
      subst q1 q2
      omega
  · have hall : ¬ [a, b].all (ofP x) = true := by
      unfold ofP
      intro hh
      simp only [List.all_cons, List.all_nil, Bool.and_true, Bool.and_eq_true, Bool.or_eq_true, beq_iff_eq] at hh
      obtain ⟨g1, g2⟩ := hh
      apply hmeet
      rcases hcd with ⟨e1, e2⟩ | ⟨e1, e2⟩ <;> rw [e1, e2] at g1 g2 <;> rcases g1 with g1 | g1 <;> rcases g2 with g2 | g2 <;> first | (exact absurd (g1.trans g2.symm) hab) | (left; exact ⟨g1.symm, g2.symm⟩) | (right; exact ⟨g2.symm, g1.symm⟩)
    rw [if_neg hall, Nat.add_zero, ← H]
    have hne : tr t u ≠ tr t v := fun e => by
      rw [e, h2] at h1
      injection h1 with h1
      exact hab h1.symm
    have hnp : ¬ (tr t u = t ∧ tr t v = t + 1) := fun ⟨e1, e2⟩ => by
      rw [e1, ha] at h1; rw [e2, hb] at h2
      injection h1 with h1; injection h2 with h2
      exact hmeet (.inl ⟨h1, h2⟩)
    have hnq : ¬ (tr t u = t + 1 ∧ tr t v = t) := fun ⟨e1, e2⟩ => by
      rw [e1, hb] at h1; rw [e2, ha] at h2
      injection h1 with h1; injection h2 with h2
      exact hmeet (.inr ⟨h2, h1⟩)
    rcases tr_cases t u with ⟨q1, q2⟩ | ⟨q1, q2⟩ | ⟨q1, q1', q2⟩ <;> rcases tr_cases t v with ⟨r1, r2⟩ | ⟨r1, r2⟩ | ⟨r1, r1', r2⟩ <;> omega
theorem Mk.order {p : Int} {ws : List Wk} (hok : SOk p ws) {a b : Int} (hab : a ≠ b) (k : Nat) : MkO (2 * p).toNat a b (Mk.works ws k) := by
  have hle := hok.le
  exact (Mk.works_ind (Q := fun s => MkG (2 * p).toNat s ∧ MkO (2 * p).toNat a b s) hok (fun s i mid hi hm h => ⟨h.1.pin i mid hi hm, h.2⟩)
    (fun s i mid n t hi ht htT h => ⟨h.1.cross (by omega) i mid n t hi ht htT, MkO.cross h.1 h.2 hab i mid n t ht htT⟩)
    ⟨MkG.start (by omega), fun i j hi hj h1 h2 => by
      rw [lineL_get (by omega)] at h1 h2
      injection h1 with h1; injection h2 with h2
      show i < j ↔ (a < b ↔ meetC [] a b % 2 = 0)
      have : meetC [] a b = 0 := rfl
      rw [this]
      omega⟩ k).2
end Go.Proofs.Ytdimfbmbomgiaaa
