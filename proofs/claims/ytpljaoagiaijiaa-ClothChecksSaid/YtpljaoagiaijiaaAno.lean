/-
  Plain law: what the document's Order allows is an order that keeps those that touch; the cloths of both sheets.
-/
import Derived.Test.YtpljaoagiaijiaaAny
namespace Go.Proofs.Ytpljaoagiaijiaa
open Go.RowKit
def touchB (x y : Wk) : Bool := decide (x.at_ - y.at_ ≤ 1) && decide (y.at_ - x.at_ ≤ 1)
def wk0 : Wk := ⟨0, 0, ⟨#[]⟩⟩
def wAt (ws : List Wk) (a : Nat) : Wk := ws.getD a wk0
theorem wAt_get {ws : List Wk} {a : Nat} {x : Wk} (h : ws[a]? = some x) : wAt ws a = x := by unfold wAt; rw [List.getD_eq_getElem?_getD, h]; rfl
/-- among the first k of the works before b, each that touches it is done -/
def befTo (ws : List Wk) (done : List Int) (b k : Nat) : Bool := (List.range k).all (fun a => !(touchB (wAt ws a) (wAt ws b) && !done.contains (a : Int)))
def ordI (ws : List Wk) (order : List Int) (i : Nat) : Bool := decide (0 ≤ order.getD i 0) && decide (order.getD i 0 < (ws.length : Int)) && !(order.take i).contains (order.getD i 0) && befTo ws (order.take i) (order.getD i 0).toNat (order.getD i 0).toNat
def ordTo (ws : List Wk) (order : List Int) (k : Nat) : Bool := (List.range k).all (ordI ws order)
def ordB (ws : List Wk) (order : List Int) : Bool := (order.length == ws.length) && ordTo ws order order.length
theorem befTo_succ (ws : List Wk) (done : List Int) (b k : Nat) : befTo ws done b (k + 1) = (befTo ws done b k && !(touchB (wAt ws k) (wAt ws b) && !done.contains (k : Int))) := by
  unfold befTo; rw [List.range_succ, List.all_append]; simp
theorem ordTo_succ (ws : List Wk) (order : List Int) (k : Nat) : ordTo ws order (k + 1) = (ordTo ws order k && ordI ws order k) := by
  unfold ordTo; rw [List.range_succ, List.all_append]; simp
theorem ordTo_no {ws : List Wk} {order : List Int} {k n : Nat} (h : ordI ws order k = false) (hk : k < n) : ordTo ws order n = false := by
  unfold ordTo
  rw [List.all_eq_false]
  exact ⟨k, List.mem_range.2 hk, by rw [h]; simp⟩
/-- labelled works -/
def labN (ws : List Wk) (a : Nat) : LW := ((a : Int), wAt ws a)
def labI (ws : List Wk) (b : Int) : LW := (b, wAt ws b.toNat)
theorem ord_reo_from {ws : List Wk} {order : List Int} (hok : ordTo ws order order.length = true) : ∀ (m i : Nat) (rem : List Nat), i + m = order.length → rem.length = m → rem.Pairwise (· < ·) → (∀ a, a ∈ rem ↔ a < ws.length ∧ (order.take i).contains (a : Int) = false) → Reo (rem.map (labN ws)) ((order.drop i).map (labI ws))
  | 0, i, rem, hi, hl, _, _ => by
    obtain rfl : rem = [] := List.length_eq_zero_iff.1 hl
    rw [List.drop_of_length_le (by omega)]
    exact Reo.nil
  | m + 1, i, rem, hi, hl, hs, hm => by
    obtain ⟨b, hb⟩ := get_of_lt (l := order) (k := i) (by omega)
    have hI : ordI ws order i = true := by
      unfold ordTo at hok
      exact List.all_eq_true.1 hok i (List.mem_range.2 (by omega))
    have hD : order.getD i 0 = b := by rw [List.getD_eq_getElem?_getD, hb]; rfl
    unfold ordI at hI
    rw [hD] at hI
    simp only [Bool.and_eq_true, decide_eq_true_eq, Bool.not_eq_true'] at hI
    obtain ⟨⟨⟨b0, bn⟩, bnew⟩, bbef⟩ := hI
    obtain ⟨c, rfl⟩ := Int.eq_ofNat_of_zero_le b0
    have hc : ((c : Nat) : Int).toNat = c := by simp
    rw [hc] at bbef
    have hmem : c ∈ rem := (hm c).2 ⟨by omega, bnew⟩
    obtain ⟨A, B, rfl⟩ := List.append_of_mem hmem
    have hdrop : order.drop i = (c : Int) :: order.drop (i + 1) := by
      rw [List.drop_eq_getElem_cons (by omega)]
      rw [List.getElem?_eq_getElem (by omega)] at hb
      injection hb with hb
      rw [hb]
    rw [hdrop, List.map_cons, List.map_append, List.map_cons]
    have hsA := List.pairwise_append.1 hs
    have e : labI ws (c : Int) = labN ws c := by unfold labI labN; rw [hc]
    rw [e]
    refine Reo.cons ?_ ?_
    · intro y hy
      obtain ⟨a, ha, rfl⟩ := List.mem_map.1 hy
      have hac : a < c := hsA.2.2 a ha c (by simp)
      have hnot := ((hm a).1 (by simp [ha])).2
      have h1 := List.all_eq_true.1 bbef a (List.mem_range.2 hac)
      rw [hnot] at h1
      have h2 : touchB (wAt ws a) (wAt ws c) = false := by simpa using h1
      unfold touchB at h2
      show (wAt ws a).at_ + 2 ≤ (wAt ws c).at_ ∨ (wAt ws c).at_ + 2 ≤ (wAt ws a).at_
      rcases Bool.and_eq_false_iff.1 h2 with h | h
      · have := of_decide_eq_false h; omega
      · have := of_decide_eq_false h; omega
    · rw [← List.map_append]
      have hsB := List.pairwise_cons.1 hsA.2.1
      refine ord_reo_from hok m (i + 1) (A ++ B) (by omega) (by simp at hl ⊢; omega) ?_ ?_
      · exact List.pairwise_append.2 ⟨hsA.1, hsB.2, fun a ha b hb => hsA.2.2 a ha b (by simp [hb])⟩
      · intro a
        have ht : (order.take (i + 1)).contains (a : Int) = ((order.take i).contains (a : Int) || ((a : Int) == (c : Int))) := by
          rw [List.take_add_one, hb, Bool.eq_iff_iff]; simp
        rw [ht]
        have h1 := hm a
        constructor
        · intro ha
          have hne : a ≠ c := by
            rcases List.mem_append.1 ha with ha | ha
            · have := hsA.2.2 a ha c (by simp); omega
            · have := hsB.1 a ha; omega
          have h2 := h1.1 (by rcases List.mem_append.1 ha with ha | ha <;> simp [ha])
          refine ⟨h2.1, ?_⟩
          rw [h2.2]
          simp; omega
        · rintro ⟨h2, h3⟩
          simp only [Bool.or_eq_false_iff, beq_eq_false_iff_ne, ne_eq] at h3
          have h4 := h1.2 ⟨h2, h3.1⟩
          rcases List.mem_append.1 h4 with h4 | h4
          · simp [h4]
          · rcases List.mem_cons.1 h4 with h4 | h4
            · exact absurd (by rw [h4]) h3.2
            · simp [h4]
theorem ord_reo {ws : List Wk} {order : List Int} (h : ordB ws order = true) : Reo ((List.range ws.length).map (labN ws)) (order.map (labI ws)) := by
  unfold ordB at h
  obtain ⟨h1, h2⟩ := (Bool.and_eq_true_iff).1 h
  have hl : order.length = ws.length := by simpa using h1
  have := ord_reo_from h2 order.length 0 (List.range ws.length) (by omega) (by simp [hl]) List.pairwise_lt_range (fun a => by simp)
  rwa [List.drop_zero] at this
/-! ### the cloths -/
def St0 : St := ⟨lineL 48, [], 0⟩
theorem gd0 : Gd St0.l := ⟨lineL_len 48, fun i j v h1 h2 => by
  have k1 := lt_of_get h1
  have k2 := lt_of_get h2
  have hl : St0.l.length = 48 := lineL_len 48
  rw [hl] at k1 k2
  have h1 : (lineL 48)[i]? = some v := h1
  have h2 : (lineL 48)[j]? = some v := h2
  rw [lineL_get k1] at h1
  rw [lineL_get k2] at h2
  injection h1 with h1; injection h2 with h2; omega⟩
theorem works_abs {ws : List Wk} : ∀ k, k ≤ ws.length → (Mk.works ws k).abs = St0.run (evs ((List.range k).map (labN ws)))
  | 0, _ => rfl
  | k + 1, hk => by
    obtain ⟨x, hx⟩ := get_of_lt (l := ws) (k := k) (by omega)
    rw [Mk.works_succ hx, Mk.abs_work, works_abs k (by omega), List.range_succ, List.map_append]
    have e : evs ((List.range k).map (labN ws) ++ [k].map (labN ws)) = evs ((List.range k).map (labN ws)) ++ evW (k : Int) x := by
      unfold evs; rw [List.flatMap_append]; simp [labN, wAt_get hx]
    rw [e, St.run_app]
/-! ### other numbers for the works -/
def relab (f : Int → Int) (x : Q4) : Q4 := { x with a := f x.a }
def evRe (f : Int → Int) : Ev → Ev
  | none => none
  | some (i, a, n) => some (f i, a, n)
def St.re (f : Int → Int) (s : St) : St := { s with xs := s.xs.map (relab f) }
theorem evX_re (f : Int → Int) (l : List Int) (i a : Int) (n : Bool) : evX l (f i) a n = relab f (evX l i a n) := by unfold evX relab; cases n <;> rfl
theorem step_re (f : Int → Int) (s : St) (e : Ev) : (s.re f).step (evRe f e) = (s.step e).re f := by
  cases e with
  | none => rfl
  | some q =>
    obtain ⟨i, a, n⟩ := q
    show St.mk (swapL s.l (evX s.l (f i) a n)) (s.xs.map (relab f) ++ [evX s.l (f i) a n]) s.np = St.mk (swapL s.l (evX s.l i a n)) ((s.xs ++ [evX s.l i a n]).map (relab f)) s.np
    rw [evX_re, List.map_append]
    rfl
theorem run_re (f : Int → Int) (es : List Ev) : ∀ s : St, (s.re f).run (es.map (evRe f)) = (s.run es).re f := by
  induction es with
  | nil => intro s; rfl
  | cons e es ih => intro s; show ((s.re f).step (evRe f e)).run (es.map (evRe f)) = _; rw [step_re, ih]; rfl
theorem evW_re (f : Int → Int) (i : Int) (x : Wk) : evW (f i) x = (evW i x).map (evRe f) := by
  have h1 : ∀ c, evL (f i) (mkMid x) c = (evL i (mkMid x) c).map (evRe f) := fun c => by
    unfold evL
    split
    · rfl
    · rw [List.map_map]; rfl
  unfold evW
  rw [List.map_append, List.map_flatMap]
  congr 1
  · split <;> rfl
  · congr 1
    funext c
    exact h1 c
theorem evs_re (f : Int → Int) (W : List LW) : evs (W.map (fun p => (f p.1, p.2))) = (evs W).map (evRe f) := by
  unfold evs
  rw [List.flatMap_map, List.map_flatMap]
  congr 1
  funext p
  exact evW_re f p.1 p.2
/-- the number of a work in a list of numbers -/
def labW (ids : List Int) (w : Int) : Int := if 0 ≤ w ∧ w < (ids.length : Int) then ids.getD w.toNat 0 else -1
def reW (ws : List Wk) (order : List Int) : List Wk := order.map (fun b => wAt ws b.toNat)
theorem labW_at {ids : List Int} {k : Nat} (h : k < ids.length) : labW ids (k : Int) = ids.getD k 0 := by
  unfold labW; rw [if_pos (by omega)]; simp
theorem map_range_getD {ids : List Int} : (List.range ids.length).map (fun k => ids.getD k 0) = ids := by
  apply List.ext_getElem?
  intro k
  by_cases h : k < ids.length
  · rw [List.getElem?_map, List.getElem?_range h, List.getElem?_eq_getElem h]
    simp [List.getD_eq_getElem?_getD, List.getElem?_eq_getElem h]
  · rw [List.getElem?_eq_none (by simpa using h), List.getElem?_eq_none (by omega)]
theorem any_alike {ws : List Wk} {order : List Int} (h : ordB ws order = true) (hw : ∀ x ∈ ws, 0 ≤ x.at_ ∧ x.at_ ≤ 22) : Alk (Mk.works ws ws.length).abs ((Mk.works (reW ws order) order.length).abs.re (labW order)) := by
  have hl : (reW ws order).length = order.length := by unfold reW; simp
  rw [works_abs _ (Nat.le_refl _), works_abs _ (Nat.le_of_eq hl.symm), ← run_re, ← evs_re]
  have e1 : (((List.range order.length).map (labN (reW ws order))).map (fun p => (labW order p.1, p.2))) = order.map (labI ws) := by
    conv => rhs; rw [← map_range_getD (ids := order)]
    rw [List.map_map, List.map_map]
    apply List.map_congr_left
    intro k hk
    have hk' := List.mem_range.1 hk
    show (labW order (k : Int), wAt (reW ws order) k) = labI ws (order.getD k 0)
    rw [labW_at hk']
    unfold labI
    have e : wAt (reW ws order) k = wAt ws (order.getD k 0).toNat := by
      refine wAt_get ?_
      unfold reW
      rw [List.getElem?_map, List.getElem?_eq_getElem hk']
      simp [List.getD_eq_getElem?_getD, List.getElem?_eq_getElem hk']
    rw [e]
  rw [e1]
  refine (ord_reo h).alike St0 gd0 ?_
  intro p hp
  obtain ⟨a, ha, rfl⟩ := List.mem_map.1 hp
  have ha' := List.mem_range.1 ha
  obtain ⟨x, hx⟩ := get_of_lt (l := ws) (k := a) ha'
  show 0 ≤ (wAt ws a).at_ ∧ (wAt ws a).at_ ≤ 22
  rw [wAt_get hx]
  exact hw x (mem_of_get hx)
/-! ### the numbers of the works in a made cloth -/
theorem Mk.crosses_lab (s : Mk) (i : Int) (mid : Nat) (ns : List Int) : ∀ k, ∀ x ∈ (s.crosses i mid ns k).xs, x ∈ s.xs ∨ x.a = i
  | 0, x, h => .inl h
  | k + 1, x, h => by
    unfold Mk.crosses at h
    split at h
    · rcases List.mem_append.1 (show x ∈ (s.crosses i mid ns k).xs ++ [_] from h) with h | h
      · exact Mk.crosses_lab s i mid ns k x h
      · right
        have e : x = mkX (s.crosses i mid ns k).l i mid ‹Int› := by simpa using h
        rw [e]; unfold mkX; split <;> rfl
    · exact Mk.crosses_lab s i mid ns k x h
theorem Mk.letters_lab (s : Mk) (i : Int) (mid : Nat) (bs : List UInt8) : ∀ k, ∀ x ∈ (s.letters i mid bs k).xs, x ∈ s.xs ∨ x.a = i
  | 0, x, h => .inl h
  | k + 1, x, h => by
    unfold Mk.letters at h
    split at h
    · unfold Mk.letter at h
      split at h
      · exact Mk.letters_lab s i mid bs k x h
      · rcases Mk.crosses_lab _ i mid _ _ x h with h | h
        · exact Mk.letters_lab s i mid bs k x h
        · exact .inr h
    · exact Mk.letters_lab s i mid bs k x h
theorem Mk.works_lab (ws : List Wk) : ∀ k, ∀ x ∈ (Mk.works ws k).xs, 0 ≤ x.a ∧ x.a < (k : Int)
  | 0, x, h => by simp [Mk.works] at h
  | k + 1, x, h => by
    have ih := Mk.works_lab ws k x
    unfold Mk.works at h
    split at h
    · unfold Mk.work at h
      rcases Mk.letters_lab _ _ _ _ _ x h with h | h
      · have h2 : x ∈ (Mk.works ws k).xs := by
          split at h
          · exact h
          · exact h
        have := ih h2; omega
      · rw [h]; omega
    · have := ih h; omega
theorem relab_own {ws : List Wk} {n : Nat} : ((Mk.works ws n).xs.map (relab (labW (lineL n)))) = (Mk.works ws n).xs := by
  conv => rhs; rw [← List.map_id (Mk.works ws n).xs]
  apply List.map_congr_left
  intro x hx
  obtain ⟨h0, h1⟩ := Mk.works_lab ws n x hx
  show relab (labW (lineL n)) x = x
  have e : labW (lineL n) x.a = x.a := by
    obtain ⟨a, ha⟩ := Int.eq_ofNat_of_zero_le h0
    rw [ha, labW_at (by rw [lineL_len]; omega), List.getD_eq_getElem?_getD, lineL_get (by omega)]; rfl
  unfold relab
  rw [e]
/-- both histories are one -/
theorem any_hist {ws : List Wk} {order : List Int} (h : ordB ws order = true) (hw : ∀ x ∈ ws, 0 ≤ x.at_ ∧ x.at_ ≤ 22) (th : Int) : hist th ((Mk.works ws ws.length).xs.map (relab (labW (lineL ws.length)))) = hist th ((Mk.works (reW ws order) order.length).xs.map (relab (labW order))) := by
  rw [relab_own]
  exact (any_alike h hw).h th
theorem hist_lab {xs : List Q4} (h : ∀ x ∈ xs, 0 ≤ x.a) (th : Int) : ∀ y ∈ hist th xs, 0 ≤ y.1 := fun y hy => by
  unfold hist at hy
  obtain ⟨x, hx, hy⟩ := List.mem_flatMap.1 hy
  have hx0 := h x hx
  rcases List.mem_append.1 hy with hy | hy
  · split at hy
    · obtain rfl : y = (x.a, x.d, true) := by simpa using hy
      exact hx0
    · simp at hy
  · split at hy
    · obtain rfl : y = (x.a, x.c, false) := by simpa using hy
      exact hx0
    · simp at hy
theorem reW_ok {p : Int} {ws : List Wk} {order : List Int} (hok : SOk p ws) (h : ordB ws order = true) : SOk p (reW ws order) := by
  unfold ordB at h
  obtain ⟨h1, h2⟩ := (Bool.and_eq_true_iff).1 h
  have hl : order.length = ws.length := by simpa using h1
  have hm : ∀ x ∈ reW ws order, x ∈ ws := fun x hx => by
    obtain ⟨b, hb, rfl⟩ := List.mem_map.1 hx
    obtain ⟨i, hi, rfl⟩ := List.mem_iff_getElem.1 hb
    have hI := List.all_eq_true.1 h2 i (List.mem_range.2 hi)
    unfold ordI at hI
    have hD : order.getD i 0 = order[i] := by rw [List.getD_eq_getElem?_getD, List.getElem?_eq_getElem hi]; rfl
    rw [hD] at hI
    simp only [Bool.and_eq_true, decide_eq_true_eq] at hI
    obtain ⟨x, hx⟩ := get_of_lt (l := ws) (k := (order[i]).toNat) (by omega)
    rw [wAt_get hx]
    exact mem_of_get hx
  exact ⟨hok.le, hok.ge, by unfold reW; rw [List.length_map, hl]; exact hok.len, fun x hx => hok.short x (hm x hx), fun x hx => hok.good x (hm x hx), fun x hx => hok.form x (hm x hx)⟩
end Go.Proofs.Ytpljaoagiaijiaa
