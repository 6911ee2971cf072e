/-
  Plain law: in any order of the works that keeps the order of those that touch, the line is the same, and each thread crosses the same threads in the same order.
-/
import Derived.Test.YtdimfbmbomgiaaaVG7
import Derived.RowKit
namespace Go.Proofs.Ytdimfbmbomgiaaa
open Go.RowKit
/-! ### events: what a work does does not depend on the line -/
/-- none: a pin; else a crossing: its work, its place, and whether it is turned -/
abbrev Ev := Option (Int × Int × Bool)
structure St where
  l : List Int
  xs : List Q4
  np : Nat
def evX (l : List Int) (i at_ : Int) (neg : Bool) : Q4 := if neg then ⟨i, at_, l.getD (at_.toNat + 1) 0, l.getD at_.toNat 0⟩ else ⟨i, at_, l.getD at_.toNat 0, l.getD (at_.toNat + 1) 0⟩
def St.step (s : St) : Ev → St
  | none => { s with np := s.np + 1 }
  | some (i, at_, neg) => { s with l := swapL s.l (evX s.l i at_ neg), xs := s.xs ++ [evX s.l i at_ neg] }
def St.run (s : St) (es : List Ev) : St := es.foldl St.step s
theorem St.run_app (s : St) (a b : List Ev) : s.run (a ++ b) = (s.run a).run b := by unfold St.run; rw [List.foldl_append]
def Mk.abs (s : Mk) : St := ⟨s.l, s.xs, s.ps.length⟩
def evL (i : Int) (mid : Nat) (c : UInt8) : List Ev := if c = 80 then [none] else (crW [c] 1).map (fun n => some (i, mkAt mid n, decide (n < 0)))
def evW (i : Int) (x : Wk) : List Ev := (if x.kind = 2 then [none] else []) ++ x.word.data.toList.flatMap (evL i (mkMid x))
theorem Mk.abs_cross (s : Mk) (i : Int) (mid : Nat) (n : Int) : (s.cross i mid n).abs = s.abs.step (some (i, mkAt mid n, decide (n < 0))) := by
  unfold Mk.cross Mk.abs St.step
  have e : mkX s.l i mid n = evX s.l i (mkAt mid n) (decide (n < 0)) := by
    unfold mkX evX
    by_cases h : n < 0 <;> simp [h]
  simp only [e]
theorem Mk.abs_pin (s : Mk) (i : Int) (mid : Nat) : (s.pin i mid).abs = s.abs.step none := by
  unfold Mk.pin Mk.abs St.step; simp
theorem Mk.abs_crosses (s : Mk) (i : Int) (mid : Nat) (ns : List Int) : ∀ k, k ≤ ns.length → (s.crosses i mid ns k).abs = s.abs.run ((ns.take k).map (fun n => some (i, mkAt mid n, decide (n < 0))))
  | 0, _ => rfl
  | k + 1, hk => by
    obtain ⟨n, hn⟩ := get_of_lt (l := ns) (k := k) (by omega)
    rw [Mk.crosses_succ hn, Mk.abs_cross, Mk.abs_crosses s i mid ns k (by omega), List.take_add_one, hn, List.map_append, St.run_app]
    rfl
theorem Mk.abs_letter (s : Mk) (i : Int) (mid : Nat) (c : UInt8) : (s.letter i mid c).abs = s.abs.run (evL i mid c) := by
  unfold Mk.letter evL
  by_cases h : c = 80
  · rw [if_pos h, if_pos h, Mk.abs_pin]; rfl
  · rw [if_neg h, if_neg h, Mk.abs_crosses _ _ _ _ _ (Nat.le_refl _), List.take_length]
theorem Mk.abs_letters (s : Mk) (i : Int) (mid : Nat) (bs : List UInt8) : ∀ k, k ≤ bs.length → (s.letters i mid bs k).abs = s.abs.run ((bs.take k).flatMap (evL i mid))
  | 0, _ => rfl
  | k + 1, hk => by
    obtain ⟨c, hc⟩ := get_of_lt (l := bs) (k := k) (by omega)
    rw [Mk.letters_succ hc, Mk.abs_letter, Mk.abs_letters s i mid bs k (by omega), List.take_add_one, hc, List.flatMap_append, St.run_app]
    simp
theorem Mk.abs_work (s : Mk) (i : Nat) (x : Wk) : (s.work i x).abs = s.abs.run (evW (i : Int) x) := by
  unfold Mk.work evW
  rw [Mk.abs_letters _ _ _ _ _ (Nat.le_refl _), List.take_length, St.run_app]
  split
  · rw [Mk.abs_pin]; rfl
  · rfl
/-! ### what is kept by an exchange -/
/-- what a thread does at the crossings: by which work, which other thread, and whether it goes over -/
def hist (th : Int) (xs : List Q4) : List (Int × Int × Bool) := xs.flatMap (fun x => (if x.c = th then [(x.a, x.d, true)] else []) ++ (if x.d = th then [(x.a, x.c, false)] else []))
theorem hist_app (th : Int) (xs ys : List Q4) : hist th (xs ++ ys) = hist th xs ++ hist th ys := by unfold hist; rw [List.flatMap_append]
structure Alk (s t : St) : Prop where
  l : s.l = t.l
  np : s.np = t.np
  len : s.xs.length = t.xs.length
  h : ∀ th, hist th s.xs = hist th t.xs
theorem Alk.refl (s : St) : Alk s s := ⟨rfl, rfl, rfl, fun _ => rfl⟩
theorem Alk.symm {s t : St} (h : Alk s t) : Alk t s := ⟨h.l.symm, h.np.symm, h.len.symm, fun th => (h.h th).symm⟩
theorem Alk.trans {s t u : St} (h : Alk s t) (k : Alk t u) : Alk s u := ⟨h.l.trans k.l, h.np.trans k.np, h.len.trans k.len, fun th => (h.h th).trans (k.h th)⟩
theorem Alk.step {s t : St} (h : Alk s t) (e : Ev) : Alk (s.step e) (t.step e) := by
  cases e with
  | none => exact ⟨h.l, congrArg (· + 1) h.np, h.len, h.h⟩
  | some q =>
    obtain ⟨i, a, n⟩ := q
    refine ⟨?_, h.np, ?_, fun th => ?_⟩
    · show swapL s.l (evX s.l i a n) = swapL t.l (evX t.l i a n); rw [h.l]
    · show (s.xs ++ [_]).length = (t.xs ++ [_]).length; rw [List.length_append, List.length_append, h.len]; rfl
    · show hist th (s.xs ++ [evX s.l i a n]) = hist th (t.xs ++ [evX t.l i a n]); rw [hist_app, hist_app, h.h th, h.l]
theorem Alk.run {s t : St} (h : Alk s t) (es : List Ev) : Alk (s.run es) (t.run es) := by
  induction es generalizing s t with
  | nil => exact h
  | cons e es ih => exact ih (h.step e)
/-- a line of 48 threads, each but once -/
structure Gd (l : List Int) : Prop where
  len : l.length = 48
  inj : ∀ (i j : Nat) (v : Int), l[i]? = some v → l[j]? = some v → i = j
def evOk : Ev → Bool
  | none => true
  | some (_, a, _) => decide (0 ≤ a) && decide (a + 1 < 48)
theorem swap_evX {l : List Int} {i a : Int} {n : Bool} {t : Nat} {va vb : Int} (ht : a = (t : Int)) (ha : l[t]? = some va) (hb : l[t + 1]? = some vb) : swapL l (evX l i a n) = (l.set t vb).set (t + 1) va ∧ evX l i a n = if n then ⟨i, a, vb, va⟩ else ⟨i, a, va, vb⟩ := by
  have e : evX l i a n = if n then ⟨i, a, vb, va⟩ else ⟨i, a, va, vb⟩ := by
    unfold evX
    rw [ht, show ((t : Nat) : Int).toNat = t by simp, List.getD_eq_getElem?_getD, List.getD_eq_getElem?_getD, ha, hb]; rfl
  refine ⟨?_, e⟩
  have eb : (evX l i a n).b.toNat = t := by rw [e, ht]; split <;> simp
  unfold swapL
  rw [eb, List.getD_eq_getElem?_getD, List.getD_eq_getElem?_getD, ha, hb]; rfl
theorem Gd.get {l : List Int} (h : Gd l) {t : Nat} (ht : t < 48) : ∃ v, l[t]? = some v := get_of_lt (by rw [h.len]; exact ht)
theorem Gd.swap {l : List Int} (h : Gd l) {t : Nat} {va vb : Int} (ha : l[t]? = some va) (hb : l[t + 1]? = some vb) : Gd ((l.set t vb).set (t + 1) va) := by
  refine ⟨by rw [List.length_set, List.length_set]; exact h.len, fun i j v h1 h2 => ?_⟩
  rw [set2_get ha hb] at h1 h2
  have := congrArg (tr t) (h.inj _ _ v h1 h2)
  rwa [tr_tr, tr_tr] at this
theorem ev_place {i a : Int} {n : Bool} (h : evOk (some (i, a, n)) = true) : ∃ t : Nat, a = (t : Int) ∧ t + 1 < 48 := by
  unfold evOk at h
  simp at h
  exact ⟨a.toNat, by omega, by omega⟩
theorem Gd.step {s : St} (h : Gd s.l) {e : Ev} (he : evOk e = true) : Gd (s.step e).l := by
  cases e with
  | none => exact h
  | some q =>
    obtain ⟨i, a, n⟩ := q
    obtain ⟨t, ht, h48⟩ := ev_place he
    obtain ⟨va, ha⟩ := h.get (show t < 48 by omega)
    obtain ⟨vb, hb⟩ := h.get h48
    show Gd (swapL s.l (evX s.l i a n))
    rw [(swap_evX ht ha hb).1]
    exact h.swap ha hb
theorem Gd.run {s : St} (h : Gd s.l) {es : List Ev} (he : ∀ e ∈ es, evOk e = true) : Gd (s.run es).l := by
  induction es generalizing s with
  | nil => exact h
  | cons e es ih => exact ih (h.step (he e (by simp))) (fun f hf => he f (by simp [hf]))
theorem tr_comm {t u p : Nat} (h : t + 2 ≤ u ∨ u + 2 ≤ t) : tr t (tr u p) = tr u (tr t p) := by
  have h1 := tr_cases u p
  have h2 := tr_cases t p
  have h3 := tr_cases t (tr u p)
  have h4 := tr_cases u (tr t p)
  omega
/-- two events whose places are apart -/
def evApart : Ev → Ev → Prop
  | some (_, a, _), some (_, b, _) => a + 2 ≤ b ∨ b + 2 ≤ a
  | _, _ => True
theorem hist_two {th : Int} {x y : Q4} (h1 : x.c ≠ y.c) (h2 : x.c ≠ y.d) (h3 : x.d ≠ y.c) (h4 : x.d ≠ y.d) : hist th [x, y] = hist th [y, x] := by
  unfold hist
  simp only [List.flatMap_cons, List.flatMap_nil, List.append_nil]
  by_cases a1 : x.c = th <;> by_cases a2 : x.d = th <;> by_cases a3 : y.c = th <;> by_cases a4 : y.d = th <;> simp [a1, a2, a3, a4] <;> first | (exact absurd (a1.trans a3.symm) h1) | (exact absurd (a1.trans a4.symm) h2) | (exact absurd (a2.trans a3.symm) h3) | (exact absurd (a2.trans a4.symm) h4)
theorem step_swap {s : St} (h : Gd s.l) {e f : Ev} (he : evOk e = true) (hf : evOk f = true) (ha : evApart e f) : Alk ((s.step e).step f) ((s.step f).step e) := by
  cases e with
  | none => cases f with
    | none => exact Alk.refl _
    | some q => exact Alk.refl _
  | some q =>
    cases f with
    | none => exact Alk.refl _
    | some r =>
      obtain ⟨i, a, n⟩ := q
      obtain ⟨j, b, m⟩ := r
      obtain ⟨t, rfl, h48⟩ := ev_place he
      obtain ⟨u, rfl, k48⟩ := ev_place hf
      have hap : t + 2 ≤ u ∨ u + 2 ≤ t := by have : (t : Int) + 2 ≤ u ∨ (u : Int) + 2 ≤ t := ha; omega
      obtain ⟨va, hva⟩ := h.get (show t < 48 by omega)
      obtain ⟨vb, hvb⟩ := h.get h48
      obtain ⟨wa, hwa⟩ := h.get (show u < 48 by omega)
      obtain ⟨wb, hwb⟩ := h.get k48
      obtain ⟨e1, e2⟩ := swap_evX (i := i) (n := n) rfl hva hvb
      obtain ⟨f1, f2⟩ := swap_evX (i := j) (n := m) rfl hwa hwb
      have c1 : ((s.l.set t vb).set (t + 1) va)[u]? = some wa := by rw [set2_get hva hvb, tr_c (by omega) (by omega)]; exact hwa
      have c2 : ((s.l.set t vb).set (t + 1) va)[u + 1]? = some wb := by rw [set2_get hva hvb, tr_c (by omega) (by omega)]; exact hwb
      have c3 : ((s.l.set u wb).set (u + 1) wa)[t]? = some va := by rw [set2_get hwa hwb, tr_c (by omega) (by omega)]; exact hva
      have c4 : ((s.l.set u wb).set (u + 1) wa)[t + 1]? = some vb := by rw [set2_get hwa hwb, tr_c (by omega) (by omega)]; exact hvb
      obtain ⟨g1, g2⟩ := swap_evX (i := j) (n := m) rfl c1 c2
      obtain ⟨k1, k2⟩ := swap_evX (i := i) (n := n) rfl c3 c4
      have L1 : ((s.step (some (i, (t : Int), n))).step (some (j, (u : Int), m))) = ⟨(((s.l.set t vb).set (t + 1) va).set u wb).set (u + 1) wa, s.xs ++ [evX s.l i (t : Int) n] ++ [evX s.l j (u : Int) m], s.np⟩ := by
        show St.mk (swapL (swapL s.l (evX s.l i (t : Int) n)) (evX (swapL s.l (evX s.l i (t : Int) n)) j (u : Int) m)) (s.xs ++ [evX s.l i (t : Int) n] ++ [evX (swapL s.l (evX s.l i (t : Int) n)) j (u : Int) m]) s.np = _
        rw [e1, g1, g2, f2]
      have L2 : ((s.step (some (j, (u : Int), m))).step (some (i, (t : Int), n))) = ⟨(((s.l.set u wb).set (u + 1) wa).set t vb).set (t + 1) va, s.xs ++ [evX s.l j (u : Int) m] ++ [evX s.l i (t : Int) n], s.np⟩ := by
        show St.mk (swapL (swapL s.l (evX s.l j (u : Int) m)) (evX (swapL s.l (evX s.l j (u : Int) m)) i (t : Int) n)) (s.xs ++ [evX s.l j (u : Int) m] ++ [evX (swapL s.l (evX s.l j (u : Int) m)) i (t : Int) n]) s.np = _
        rw [f1, k1, k2, e2]
      rw [L1, L2]
      have d : ∀ {p q : Nat} {v w : Int}, s.l[p]? = some v → s.l[q]? = some w → p ≠ q → v ≠ w := fun hp hq hpq e => hpq (h.inj _ _ _ hp (e ▸ hq))
      refine ⟨?_, rfl, by simp, fun th => ?_⟩
      · apply List.ext_getElem?
        intro p
        show ((((s.l.set t vb).set (t + 1) va).set u wb).set (u + 1) wa)[p]? = ((((s.l.set u wb).set (u + 1) wa).set t vb).set (t + 1) va)[p]?
        rw [set2_get c1 c2, set2_get hva hvb, set2_get c3 c4, set2_get hwa hwb]
        rw [tr_comm hap]
      · show hist th (s.xs ++ [evX s.l i (t : Int) n] ++ [evX s.l j (u : Int) m]) = hist th (s.xs ++ [evX s.l j (u : Int) m] ++ [evX s.l i (t : Int) n])
        rw [List.append_assoc, List.append_assoc, hist_app, hist_app th s.xs]
        congr 1
        refine hist_two ?_ ?_ ?_ ?_ <;> rw [e2, f2] <;> cases n <;> cases m <;> first | exact d hva hwa (by omega) | exact d hva hwb (by omega) | exact d hvb hwa (by omega) | exact d hvb hwb (by omega)
theorem run_one {s : St} (h : Gd s.l) {e : Ev} {es : List Ev} (he : evOk e = true) (hes : ∀ f ∈ es, evOk f = true ∧ evApart f e) : Alk ((s.run es).step e) ((s.step e).run es) := by
  induction es generalizing s with
  | nil => exact Alk.refl _
  | cons f es ih =>
    have hf := hes f (by simp)
    have h1 := ih (s := s.step f) (h.step hf.1) (fun g hg => hes g (by simp [hg]))
    exact h1.trans ((step_swap h hf.1 he hf.2).run es)
theorem run_swap {s : St} (h : Gd s.l) {es fs : List Ev} (he : ∀ e ∈ es, evOk e = true) (hf : ∀ f ∈ fs, evOk f = true) (hap : ∀ e ∈ es, ∀ f ∈ fs, evApart f e) : Alk ((s.run fs).run es) ((s.run es).run fs) := by
  induction es generalizing s with
  | nil => exact Alk.refl _
  | cons e es ih =>
    have h1 := run_one h (he e (by simp)) (fun f hf' => ⟨hf f hf', hap e (by simp) f hf'⟩)
    have h2 := ih (s := s.step e) (h.step (he e (by simp))) (fun g hg => he g (by simp [hg])) (fun g hg f hf' => hap g (by simp [hg]) f hf')
    exact (h1.run es).trans h2
/-! ### works in another order -/
abbrev LW := Int × Wk
def evs (W : List LW) : List Ev := W.flatMap (fun p => evW p.1 p.2)
def lwOk (p : LW) : Prop := 0 ≤ p.2.at_ ∧ p.2.at_ ≤ 22
def lwApart (p q : LW) : Prop := p.2.at_ + 2 ≤ q.2.at_ ∨ q.2.at_ + 2 ≤ p.2.at_
theorem evW_mem {i : Int} {x : Wk} {e : Ev} (h0 : 0 ≤ x.at_) (h : e ∈ evW i x) : e = none ∨ ∃ a n, e = some (i, a, n) ∧ 2 * x.at_ ≤ a ∧ a ≤ 2 * x.at_ + 2 := by
  unfold evW at h
  rcases List.mem_append.1 h with h | h
  · split at h
    · left; simpa using h
    · simp at h
  · obtain ⟨c, _, hc⟩ := List.mem_flatMap.1 h
    unfold evL at hc
    split at hc
    · left; simpa using hc
    · obtain ⟨n, hn, rfl⟩ := List.mem_map.1 hc
      obtain ⟨n0, n1, n2⟩ := crL_mem c n hn
      right
      refine ⟨_, _, rfl, ?_, ?_⟩ <;> (unfold mkAt mkMid; split <;> omega)
theorem evW_ok {p : LW} (h : lwOk p) : ∀ e ∈ evW p.1 p.2, evOk e = true := fun e he => by
  rcases evW_mem h.1 he with rfl | ⟨a, n, rfl, h1, h2⟩
  · rfl
  · have := h.1; have := h.2; unfold evOk; simp; omega
theorem evW_apart {p q : LW} (hp : lwOk p) (hq : lwOk q) (h : lwApart p q) : ∀ e ∈ evW p.1 p.2, ∀ f ∈ evW q.1 q.2, evApart e f := fun e he f hf => by
  rcases evW_mem hp.1 he with rfl | ⟨a, n, rfl, h1, h2⟩
  · exact trivial
  · rcases evW_mem hq.1 hf with rfl | ⟨b, m, rfl, k1, k2⟩
    · exact trivial
    · show a + 2 ≤ b ∨ b + 2 ≤ a
      unfold lwApart at h; omega
inductive Reo : List LW → List LW → Prop
  | nil : Reo [] []
  | cons {A B W : List LW} {x : LW} : (∀ y ∈ A, lwApart y x) → Reo (A ++ B) W → Reo (A ++ x :: B) (x :: W)
theorem Reo.alike {V W : List LW} (h : Reo V W) : ∀ s : St, Gd s.l → (∀ p ∈ V, lwOk p) → Alk (s.run (evs V)) (s.run (evs W)) := by
  induction h with
  | nil => intro s _ _; exact Alk.refl _
  | @cons A B W x hA _ ih =>
    intro s hs hV
    have hx : lwOk x := hV x (by simp)
    have hA2 : ∀ p ∈ A, lwOk p := fun p hp => hV p (by simp [hp])
    have hAB : ∀ p ∈ A ++ B, lwOk p := fun p hp => hV p (by
      rcases List.mem_append.1 hp with hp | hp
      · simp [hp]
      · simp [hp])
    have e1 : s.run (evs (A ++ x :: B)) = ((s.run (evs A)).run (evW x.1 x.2)).run (evs B) := by
      unfold evs; rw [List.flatMap_append, List.flatMap_cons, St.run_app, St.run_app]
    have e2 : s.run (evs (x :: W)) = (s.run (evW x.1 x.2)).run (evs W) := by unfold evs; rw [List.flatMap_cons, St.run_app]
    have e3 : (s.run (evW x.1 x.2)).run (evs (A ++ B)) = ((s.run (evW x.1 x.2)).run (evs A)).run (evs B) := by unfold evs; rw [List.flatMap_append, St.run_app]
    have hAe : ∀ e ∈ evs A, evOk e = true ∧ ∀ f ∈ evW x.1 x.2, evApart e f := fun e he => by
      obtain ⟨p, hp, he⟩ := List.mem_flatMap.1 he
      exact ⟨evW_ok (hA2 p hp) e he, fun f hf => evW_apart (hA2 p hp) hx (hA p hp) e he f hf⟩
    have sw := run_swap hs (evW_ok hx) (fun e he => (hAe e he).1) (fun f hf e he => (hAe e he).2 f hf)
    rw [e1, e2]
    refine (sw.run (evs B)).trans ?_
    rw [← e3]
    exact ih _ (hs.run (evW_ok hx)) hAB
end Go.Proofs.Ytdimfbmbomgiaaa
/-
  Plain law: what the document's Order allows is an order that keeps those that touch; the cloths of both sheets.
-/
namespace Go.Proofs.Ytdimfbmbomgiaaa
open Go.RowKit
def touchB (x y : Wk) : Bool := decide (x.at_ - y.at_ ≤ 1) && decide (y.at_ - x.at_ ≤ 1)
def wk0 : Wk := ⟨0, 0, ⟨#[]⟩⟩
def wAt (ws : List Wk) (a : Nat) : Wk := ws.getD a wk0
theorem wAt_get {ws : List Wk} {a : Nat} {x : Wk} (h : ws[a]? = some x) : wAt ws a = x := by unfold wAt; rw [List.getD_eq_getElem?_getD, h]; rfl
/-- among the first k of the works before b, each that touches it is done -/
def befTo (ws : List Wk) (done : List Int) (b k : Nat) : Bool := (List.range k).all (fun a => !(touchB (wAt ws a) (wAt ws b) && !done.contains (a : Int)))
def ordI (ws : List Wk) (order : List Int) (i : Nat) : Bool := decide (0 ≤ order.getD i 0) && decide (order.getD i 0 < (ws.length : Int)) && !(order.take i).contains (order.getD i 0) && befTo ws (order.take i) (order.getD i 0).toNat (order.getD i 0).toNat
def ordTo (ws : List Wk) (order : List Int) (k : Nat) : Bool := (List.range k).all (ordI ws order)
def ordB (ws : List Wk) (order : List Int) : Bool := (order.length == ws.length) && ordTo ws order order.length
theorem befTo_succ (ws : List Wk) (done : List Int) (b k : Nat) : befTo ws done b (k + 1) = (befTo ws done b k && !(touchB (wAt ws k) (wAt ws b) && !done.contains (k : Int))) := by
  unfold befTo; rw [List.range_succ, List.all_append]; simp
theorem ordTo_succ (ws : List Wk) (order : List Int) (k : Nat) : ordTo ws order (k + 1) = (ordTo ws order k && ordI ws order k) := by
  unfold ordTo; rw [List.range_succ, List.all_append]; simp
theorem ordTo_no {ws : List Wk} {order : List Int} {k n : Nat} (h : ordI ws order k = false) (hk : k < n) : ordTo ws order n = false := by
  unfold ordTo
  rw [List.all_eq_false]
  exact ⟨k, List.mem_range.2 hk, by rw [h]; simp⟩
/-- labelled works -/
def labN (ws : List Wk) (a : Nat) : LW := ((a : Int), wAt ws a)
def labI (ws : List Wk) (b : Int) : LW := (b, wAt ws b.toNat)
theorem ord_reo_from {ws : List Wk} {order : List Int} (hok : ordTo ws order order.length = true) : ∀ (m i : Nat) (rem : List Nat), i + m = order.length → rem.length = m → rem.Pairwise (· < ·) → (∀ a, a ∈ rem ↔ a < ws.length ∧ (order.take i).contains (a : Int) = false) → Reo (rem.map (labN ws)) ((order.drop i).map (labI ws))
  | 0, i, rem, hi, hl, _, _ => by
    obtain rfl : rem = [] := List.length_eq_zero_iff.1 hl
    rw [List.drop_of_length_le (by omega)]
    exact Reo.nil
  | m + 1, i, rem, hi, hl, hs, hm => by
    obtain ⟨b, hb⟩ := get_of_lt (l := order) (k := i) (by omega)
    have hI : ordI ws order i = true := by
      unfold ordTo at hok
      exact List.all_eq_true.1 hok i (List.mem_range.2 (by omega))
    have hD : order.getD i 0 = b := by rw [List.getD_eq_getElem?_getD, hb]; rfl
    unfold ordI at hI
    rw [hD] at hI
    simp only [Bool.and_eq_true, decide_eq_true_eq, Bool.not_eq_true'] at hI
    obtain ⟨⟨⟨b0, bn⟩, bnew⟩, bbef⟩ := hI
    obtain ⟨c, rfl⟩ := Int.eq_ofNat_of_zero_le b0
    have hc : ((c : Nat) : Int).toNat = c := by simp
    rw [hc] at bbef
    have hmem : c ∈ rem := (hm c).2 ⟨by omega, bnew⟩
    obtain ⟨A, B, rfl⟩ := List.append_of_mem hmem
    have hdrop : order.drop i = (c : Int) :: order.drop (i + 1) := by
      rw [List.drop_eq_getElem_cons (by omega)]
      rw [List.getElem?_eq_getElem (by omega)] at hb
      injection hb with hb
      rw [hb]
    rw [hdrop, List.map_cons, List.map_append, List.map_cons]
    have hsA := List.pairwise_append.1 hs
    have e : labI ws (c : Int) = labN ws c := by unfold labI labN; rw [hc]
    rw [e]
    refine Reo.cons ?_ ?_
    · intro y hy
      obtain ⟨a, ha, rfl⟩ := List.mem_map.1 hy
      have hac : a < c := hsA.2.2 a ha c (by simp)
      have hnot := ((hm a).1 (by simp [ha])).2
      have h1 := List.all_eq_true.1 bbef a (List.mem_range.2 hac)
      rw [hnot] at h1
      have h2 : touchB (wAt ws a) (wAt ws c) = false := by simpa using h1
      unfold touchB at h2
      show (wAt ws a).at_ + 2 ≤ (wAt ws c).at_ ∨ (wAt ws c).at_ + 2 ≤ (wAt ws a).at_
      rcases Bool.and_eq_false_iff.1 h2 with h | h
      · have := of_decide_eq_false h; omega
      · have := of_decide_eq_false h; omega
    · rw [← List.map_append]
      have hsB := List.pairwise_cons.1 hsA.2.1
      refine ord_reo_from hok m (i + 1) (A ++ B) (by omega) (by simp at hl ⊢; omega) ?_ ?_
      · exact List.pairwise_append.2 ⟨hsA.1, hsB.2, fun a ha b hb => hsA.2.2 a ha b (by simp [hb])⟩
      · intro a
        have ht : (order.take (i + 1)).contains (a : Int) = ((order.take i).contains (a : Int) || ((a : Int) == (c : Int))) := by
          rw [List.take_add_one, hb, Bool.eq_iff_iff]; simp
        rw [ht]
        have h1 := hm a
        constructor
        · intro ha
          have hne : a ≠ c := by
            rcases List.mem_append.1 ha with ha | ha
            · have := hsA.2.2 a ha c (by simp); omega
            · have := hsB.1 a ha; omega
          have h2 := h1.1 (by rcases List.mem_append.1 ha with ha | ha <;> simp [ha])
          refine ⟨h2.1, ?_⟩
          rw [h2.2]
          simp; omega
        · rintro ⟨h2, h3⟩
          simp only [Bool.or_eq_false_iff, beq_eq_false_iff_ne, ne_eq] at h3
          have h4 := h1.2 ⟨h2, h3.1⟩
          rcases List.mem_append.1 h4 with h4 | h4
          · simp [h4]
          · rcases List.mem_cons.1 h4 with h4 | h4
            · exact absurd (by rw [h4]) h3.2
            · simp [h4]
theorem ord_reo {ws : List Wk} {order : List Int} (h : ordB ws order = true) : Reo ((List.range ws.length).map (labN ws)) (order.map (labI ws)) := by
  unfold ordB at h
  obtain ⟨h1, h2⟩ := (Bool.and_eq_true_iff).1 h
  have hl : order.length = ws.length := by simpa using h1
  have := ord_reo_from h2 order.length 0 (List.range ws.length) (by omega) (by simp [hl]) List.pairwise_lt_range (fun a => by simp)
  rwa [List.drop_zero] at this
/-! ### the cloths -/
def St0 : St := ⟨lineL 48, [], 0⟩
theorem gd0 : Gd St0.l := ⟨lineL_len 48, fun i j v h1 h2 => by
  have k1 := lt_of_get h1
  have k2 := lt_of_get h2
  have hl : St0.l.length = 48 := lineL_len 48
  rw [hl] at k1 k2
  have h1 : (lineL 48)[i]? = some v := h1
  have h2 : (lineL 48)[j]? = some v := h2
  rw [lineL_get k1] at h1
  rw [lineL_get k2] at h2
  injection h1 with h1; injection h2 with h2; omega⟩
theorem works_abs {ws : List Wk} : ∀ k, k ≤ ws.length → (Mk.works ws k).abs = St0.run (evs ((List.range k).map (labN ws)))
  | 0, _ => rfl
  | k + 1, hk => by
    obtain ⟨x, hx⟩ := get_of_lt (l := ws) (k := k) (by omega)
    rw [Mk.works_succ hx, Mk.abs_work, works_abs k (by omega), List.range_succ, List.map_append]
    have e : evs ((List.range k).map (labN ws) ++ [k].map (labN ws)) = evs ((List.range k).map (labN ws)) ++ evW (k : Int) x := by
      unfold evs; rw [List.flatMap_append]; simp [labN, wAt_get hx]
    rw [e, St.run_app]
/-! ### other numbers for the works -/
def relab (f : Int → Int) (x : Q4) : Q4 := { x with a := f x.a }
def evRe (f : Int → Int) : Ev → Ev
  | none => none
  | some (i, a, n) => some (f i, a, n)
def St.re (f : Int → Int) (s : St) : St := { s with xs := s.xs.map (relab f) }
theorem evX_re (f : Int → Int) (l : List Int) (i a : Int) (n : Bool) : evX l (f i) a n = relab f (evX l i a n) := by unfold evX relab; cases n <;> rfl
theorem step_re (f : Int → Int) (s : St) (e : Ev) : (s.re f).step (evRe f e) = (s.step e).re f := by
  cases e with
  | none => rfl
  | some q =>
    obtain ⟨i, a, n⟩ := q
    show St.mk (swapL s.l (evX s.l (f i) a n)) (s.xs.map (relab f) ++ [evX s.l (f i) a n]) s.np = St.mk (swapL s.l (evX s.l i a n)) ((s.xs ++ [evX s.l i a n]).map (relab f)) s.np
    rw [evX_re, List.map_append]
    rfl
theorem run_re (f : Int → Int) (es : List Ev) : ∀ s : St, (s.re f).run (es.map (evRe f)) = (s.run es).re f := by
  induction es with
  | nil => intro s; rfl
  | cons e es ih => intro s; show ((s.re f).step (evRe f e)).run (es.map (evRe f)) = _; rw [step_re, ih]; rfl
theorem evW_re (f : Int → Int) (i : Int) (x : Wk) : evW (f i) x = (evW i x).map (evRe f) := by
  have h1 : ∀ c, evL (f i) (mkMid x) c = (evL i (mkMid x) c).map (evRe f) := fun c => by
    unfold evL
    split
    · rfl
    · rw [List.map_map]; rfl
  unfold evW
  rw [List.map_append, List.map_flatMap]
  congr 1
  · split <;> rfl
  · congr 1
    funext c
    exact h1 c
theorem evs_re (f : Int → Int) (W : List LW) : evs (W.map (fun p => (f p.1, p.2))) = (evs W).map (evRe f) := by
  unfold evs
  rw [List.flatMap_map, List.map_flatMap]
  congr 1
  funext p
  exact evW_re f p.1 p.2
/-- the number of a work in a list of numbers -/
def labW (ids : List Int) (w : Int) : Int := if 0 ≤ w ∧ w < (ids.length : Int) then ids.getD w.toNat 0 else -1
def reW (ws : List Wk) (order : List Int) : List Wk := order.map (fun b => wAt ws b.toNat)
theorem labW_at {ids : List Int} {k : Nat} (h : k < ids.length) : labW ids (k : Int) = ids.getD k 0 := by
  unfold labW; rw [if_pos (by omega)]; simp
theorem map_range_getD {ids : List Int} : (List.range ids.length).map (fun k => ids.getD k 0) = ids := by
  apply List.ext_getElem?
  intro k
  by_cases h : k < ids.length
  · rw [List.getElem?_map, List.getElem?_range h, List.getElem?_eq_getElem h]
    simp [List.getD_eq_getElem?_getD, List.getElem?_eq_getElem h]
  · rw [List.getElem?_eq_none (by simpa using h), List.getElem?_eq_none (by omega)]
theorem any_alike {ws : List Wk} {order : List Int} (h : ordB ws order = true) (hw : ∀ x ∈ ws, 0 ≤ x.at_ ∧ x.at_ ≤ 22) : Alk (Mk.works ws ws.length).abs ((Mk.works (reW ws order) order.length).abs.re (labW order)) := by
  have hl : (reW ws order).length = order.length := by unfold reW; simp
  rw [works_abs _ (Nat.le_refl _), works_abs _ (Nat.le_of_eq hl.symm), ← run_re, ← evs_re]
  have e1 : (((List.range order.length).map (labN (reW ws order))).map (fun p => (labW order p.1, p.2))) = order.map (labI ws) := by
    conv => rhs; rw [← map_range_getD (ids := order)]
    rw [List.map_map, List.map_map]
    apply List.map_congr_left
    intro k hk
    have hk' := List.mem_range.1 hk
    show (labW order (k : Int), wAt (reW ws order) k) = labI ws (order.getD k 0)
    rw [labW_at hk']
    unfold labI
    have e : wAt (reW ws order) k = wAt ws (order.getD k 0).toNat := by
      refine wAt_get ?_
      unfold reW
      rw [List.getElem?_map, List.getElem?_eq_getElem hk']
      simp [List.getD_eq_getElem?_getD, List.getElem?_eq_getElem hk']
    rw [e]
  rw [e1]
  refine (ord_reo h).alike St0 gd0 ?_
  intro p hp
  obtain ⟨a, ha, rfl⟩ := List.mem_map.1 hp
  have ha' := List.mem_range.1 ha
  obtain ⟨x, hx⟩ := get_of_lt (l := ws) (k := a) ha'
  show 0 ≤ (wAt ws a).at_ ∧ (wAt ws a).at_ ≤ 22
  rw [wAt_get hx]
  exact hw x (mem_of_get hx)
/-! ### the numbers of the works in a made cloth -/
theorem Mk.crosses_lab (s : Mk) (i : Int) (mid : Nat) (ns : List Int) : ∀ k, ∀ x ∈ (s.crosses i mid ns k).xs, x ∈ s.xs ∨ x.a = i
  | 0, x, h => .inl h
  | k + 1, x, h => by
    unfold Mk.crosses at h
    split at h
    · rcases List.mem_append.1 (show x ∈ (s.crosses i mid ns k).xs ++ [_] from h) with h | h
      · exact Mk.crosses_lab s i mid ns k x h
      · right
        have e : x = mkX (s.crosses i mid ns k).l i mid ‹Int› := by simpa using h
        rw [e]; unfold mkX; split <;> rfl
    · exact Mk.crosses_lab s i mid ns k x h
theorem Mk.letters_lab (s : Mk) (i : Int) (mid : Nat) (bs : List UInt8) : ∀ k, ∀ x ∈ (s.letters i mid bs k).xs, x ∈ s.xs ∨ x.a = i
  | 0, x, h => .inl h
  | k + 1, x, h => by
    unfold Mk.letters at h
    split at h
    · unfold Mk.letter at h
      split at h
      · exact Mk.letters_lab s i mid bs k x h
      · rcases Mk.crosses_lab _ i mid _ _ x h with h | h
        · exact Mk.letters_lab s i mid bs k x h
        · exact .inr h
    · exact Mk.letters_lab s i mid bs k x h
theorem Mk.works_lab (ws : List Wk) : ∀ k, ∀ x ∈ (Mk.works ws k).xs, 0 ≤ x.a ∧ x.a < (k : Int)
  | 0, x, h => by simp [Mk.works] at h
  | k + 1, x, h => by
    have ih := Mk.works_lab ws k x
    unfold Mk.works at h
    split at h
    · unfold Mk.work at h
      rcases Mk.letters_lab _ _ _ _ _ x h with h | h
      · have h2 : x ∈ (Mk.works ws k).xs := by
          split at h
          · exact h
          · exact h
        have := ih h2; omega
      · rw [h]; omega
    · have := ih h; omega
theorem relab_own {ws : List Wk} {n : Nat} : ((Mk.works ws n).xs.map (relab (labW (lineL n)))) = (Mk.works ws n).xs := by
  conv => rhs; rw [← List.map_id (Mk.works ws n).xs]
  apply List.map_congr_left
  intro x hx
  obtain ⟨h0, h1⟩ := Mk.works_lab ws n x hx
  show relab (labW (lineL n)) x = x
  have e : labW (lineL n) x.a = x.a := by
    obtain ⟨a, ha⟩ := Int.eq_ofNat_of_zero_le h0
    rw [ha, labW_at (by rw [lineL_len]; omega), List.getD_eq_getElem?_getD, lineL_get (by omega)]; rfl
  unfold relab
  rw [e]
/-- both histories are one -/
theorem any_hist {ws : List Wk} {order : List Int} (h : ordB ws order = true) (hw : ∀ x ∈ ws, 0 ≤ x.at_ ∧ x.at_ ≤ 22) (th : Int) : hist th ((Mk.works ws ws.length).xs.map (relab (labW (lineL ws.length)))) = hist th ((Mk.works (reW ws order) order.length).xs.map (relab (labW order))) := by
  rw [relab_own]
  exact (any_alike h hw).h th
theorem hist_lab {xs : List Q4} (h : ∀ x ∈ xs, 0 ≤ x.a) (th : Int) : ∀ y ∈ hist th xs, 0 ≤ y.1 := fun y hy => by
  unfold hist at hy
  obtain ⟨x, hx, hy⟩ := List.mem_flatMap.1 hy
  have hx0 := h x hx
  rcases List.mem_append.1 hy with hy | hy
  · split at hy
    · obtain rfl : y = (x.a, x.d, true) := by simpa using hy
      exact hx0
    · simp at hy
  · split at hy
    · obtain rfl : y = (x.a, x.c, false) := by simpa using hy
      exact hx0
    · simp at hy
theorem reW_ok {p : Int} {ws : List Wk} {order : List Int} (hok : SOk p ws) (h : ordB ws order = true) : SOk p (reW ws order) := by
  unfold ordB at h
  obtain ⟨h1, h2⟩ := (Bool.and_eq_true_iff).1 h
  have hl : order.length = ws.length := by simpa using h1
  have hm : ∀ x ∈ reW ws order, x ∈ ws := fun x hx => by
    obtain ⟨b, hb, rfl⟩ := List.mem_map.1 hx
    obtain ⟨i, hi, rfl⟩ := List.mem_iff_getElem.1 hb
    have hI := List.all_eq_true.1 h2 i (List.mem_range.2 hi)
    unfold ordI at hI
    have hD : order.getD i 0 = order[i] := by rw [List.getD_eq_getElem?_getD, List.getElem?_eq_getElem hi]; rfl
    rw [hD] at hI
    simp only [Bool.and_eq_true, decide_eq_true_eq] at hI
    obtain ⟨x, hx⟩ := get_of_lt (l := ws) (k := (order[i]).toNat) (by omega)
    rw [wAt_get hx]
    exact mem_of_get hx
  exact ⟨hok.le, hok.ge, by unfold reW; rw [List.length_map, hl]; exact hok.len, fun x hx => hok.short x (hm x hx), fun x hx => hok.good x (hm x hx), fun x hx => hok.form x (hm x hx)⟩
end Go.Proofs.Ytdimfbmbomgiaaa
/-
  Plain law of loops: a map of the numbers below T to themselves, one to one; the loops that are found when each number that was not seen is followed. No program here.
-/
namespace Go.Proofs.Ytdimfbmbomgiaaa
namespace Cyc
def it (nx : Nat → Nat) : Nat → Nat → Nat
  | 0, k => k
  | n + 1, k => it nx n (nx k)
def upd (s : Nat → Bool) (k : Nat) : Nat → Bool := fun j => if j = k then true else s j
/-- follow from k on, fuel f, what was seen s: what is seen then, and the loop -/
def trail (nx : Nat → Nat) : Nat → (Nat → Bool) → Nat → (Nat → Bool) × List Nat
  | 0, s, _ => (s, [])
  | f + 1, s, k => if s k then (s, []) else ((trail nx f (upd s k) (nx k)).1, k :: (trail nx f (upd s k) (nx k)).2)
/-- the loops of the numbers below j -/
def loopsTo (nx : Nat → Nat) (T : Nat) : Nat → (Nat → Bool) × List (List Nat)
  | 0 => (fun _ => false, [])
  | j + 1 => ((trail nx T (loopsTo nx T j).1 j).1, if (trail nx T (loopsTo nx T j).1 j).2 = [] then (loopsTo nx T j).2 else (loopsTo nx T j).2 ++ [(trail nx T (loopsTo nx T j).1 j).2])
def loops (nx : Nat → Nat) (T : Nat) : List (List Nat) := (loopsTo nx T T).2

theorem it_succ (nx : Nat → Nat) (n k : Nat) : it nx (n + 1) k = it nx n (nx k) := rfl
theorem it_succ' (nx : Nat → Nat) : ∀ n k, it nx (n + 1) k = nx (it nx n k)
  | 0, _ => rfl
  | n + 1, k => by rw [it_succ nx (n + 1), it_succ' nx n (nx k)]; rfl
theorem it_add (nx : Nat → Nat) (m : Nat) : ∀ n k, it nx (m + n) k = it nx m (it nx n k)
  | 0, _ => rfl
  | n + 1, k => by show it nx (m + n) (nx k) = _; rw [it_add nx m n]; rfl
/-- one to one, to themselves -/
structure Perm (nx : Nat → Nat) (T : Nat) : Prop where
  lt : ∀ k, k < T → nx k < T
  inj : ∀ a b, a < T → b < T → nx a = nx b → a = b
theorem Perm.it_lt {nx : Nat → Nat} {T : Nat} (P : Perm nx T) : ∀ n k, k < T → it nx n k < T
  | 0, _, h => h
  | n + 1, k, h => P.it_lt n (nx k) (P.lt k h)
theorem Perm.it_inj {nx : Nat → Nat} {T : Nat} (P : Perm nx T) : ∀ n a b, a < T → b < T → it nx n a = it nx n b → a = b
  | 0, _, _, _, _, h => h
  | n + 1, a, b, ha, hb, h => P.inj a b ha hb (P.it_inj n _ _ (P.lt a ha) (P.lt b hb) h)

def cnt (s : Nat → Bool) (T : Nat) : Nat := ((List.range T).filter (fun k => !s k)).length
theorem cnt_succ (s : Nat → Bool) (T : Nat) : cnt s (T + 1) = cnt s T + if s T then 0 else 1 := by
  unfold cnt
  rw [List.range_succ, List.filter_append, List.length_append]
  cases h : s T <;> simp [h]
theorem upd_same (s : Nat → Bool) (k : Nat) : upd s k k = true := by simp [upd]
theorem upd_ne (s : Nat → Bool) {k j : Nat} (h : j ≠ k) : upd s k j = s j := by simp [upd, h]
theorem cnt_out (s : Nat → Bool) (k : Nat) : ∀ T, T ≤ k → cnt (upd s k) T = cnt s T
  | 0, _ => rfl
  | T + 1, h => by rw [cnt_succ, cnt_succ, cnt_out s k T (by omega), upd_ne s (by omega)]
theorem cnt_upd (s : Nat → Bool) (k : Nat) (hs : s k = false) : ∀ T, k < T → cnt s T = cnt (upd s k) T + 1
  | T + 1, h => by
    rw [cnt_succ, cnt_succ]
    by_cases e : T = k
    · subst e
      rw [upd_same, hs, cnt_out s T T (Nat.le_refl _)]; simp
    · rw [upd_ne s e, cnt_upd s k hs T (by omega)]; omega
theorem cnt_le (s : Nat → Bool) (T : Nat) : cnt s T ≤ T := by
  unfold cnt
  have := List.length_filter_le (fun k => !s k) (List.range T)
  simpa using this
theorem cnt_pos (s : Nat → Bool) {k T : Nat} (hk : k < T) (hs : s k = false) : 0 < cnt s T := by
  have := cnt_upd s k hs T hk; omega

/-- what a trail is -/
structure Run (nx : Nat → Nat) (T f : Nat) (s : Nat → Bool) (k : Nat) (q : (Nat → Bool) × List Nat) : Prop where
  at_ : ∀ i, i < q.2.length → q.2[i]? = some (it nx i k)
  new : ∀ i, i < q.2.length → s (it nx i k) = false
  ne : ∀ i j, i < j → j < q.2.length → it nx i k ≠ it nx j k
  seen : ∀ j, q.1 j = true ↔ (s j = true ∨ j ∈ q.2)
  stop : cnt s T ≤ f → k < T → q.1 (it nx q.2.length k) = true
theorem trail_run {nx : Nat → Nat} {T : Nat} (hlt : ∀ k, k < T → nx k < T) : ∀ f s k, Run nx T f s k (trail nx f s k)
  | 0, s, k => ⟨fun i h => by simp [trail] at h, fun i h => by simp [trail] at h, fun i j _ h => by simp [trail] at h, fun j => by simp [trail], fun h hk => by
      show s k = true
      cases hs : s k with
      | true => rfl
      | false => have := cnt_pos s hk hs; omega⟩
  | f + 1, s, k => by
    cases hs : s k with
    | true =>
      have e : trail nx (f + 1) s k = (s, []) := by simp [trail, hs]
      rw [e]
      exact ⟨fun i h => by simp at h, fun i h => by simp at h, fun i j _ h => by simp at h, fun j => by simp, fun _ _ => hs⟩
    | false =>
      have ih := trail_run hlt f (upd s k) (nx k)
      have e : trail nx (f + 1) s k = ((trail nx f (upd s k) (nx k)).1, k :: (trail nx f (upd s k) (nx k)).2) := by simp [trail, hs]
      rw [e]
      generalize trail nx f (upd s k) (nx k) = q at ih
      refine ⟨?_, ?_, ?_, ?_, ?_⟩
      · intro i hi
        cases i with
        | zero => rfl
        | succ i => simpa [it_succ] using ih.at_ i (by simpa using hi)
      · intro i hi
        cases i with
        | zero => exact hs
        | succ i =>
          have := ih.new i (by simpa using hi)
          unfold upd at this
          split at this
          · cases this
          · exact this
      · intro i j hij hj
        cases j with
        | zero => omega
        | succ j =>
          have hj' : j < q.2.length := by simpa using hj
          cases i with
          | zero =>
            intro h
            have := ih.new j hj'
            rw [show it nx j (nx k) = k from h.symm, upd_same] at this
            cases this
          | succ i => exact ih.ne i j (by omega) hj'
      · intro j
        show q.1 j = true ↔ _
        rw [ih.seen j]
        by_cases e : j = k
        · subst e; simp [upd_same]
        · rw [upd_ne s e]; simp [e]
      · intro hc hk
        have hc2 := cnt_upd s k hs T hk
        have := ih.stop (by omega) (hlt k hk)
        simpa [it_succ] using this
/-- a loop: from its first thread on, each the next of the one before, back to the first -/
structure Loop (nx : Nat → Nat) (h : Nat) (l : List Nat) : Prop where
  pos : 0 < l.length
  at_ : ∀ i, i < l.length → l[i]? = some (it nx i h)
  back : it nx l.length h = h
  least : ∀ i, 0 < i → i < l.length → it nx i h ≠ h
/-- seen: with each number the next one, and the one before -/
def Closed (nx : Nat → Nat) (T : Nat) (s : Nat → Bool) : Prop := ∀ k, k < T → (s k = true ↔ s (nx k) = true)
theorem Closed.it {nx : Nat → Nat} {T : Nat} {s : Nat → Bool} (P : Perm nx T) (C : Closed nx T s) : ∀ n k, k < T → (s k = true ↔ s (it nx n k) = true)
  | 0, _, _ => Iff.rfl
  | n + 1, k, h => (C k h).trans (C.it P n (nx k) (P.lt k h))
theorem trail_loop {nx : Nat → Nat} {T : Nat} (P : Perm nx T) {s : Nat → Bool} (C : Closed nx T s) {t : Nat} (ht : t < T) (hs : s t = false) : Loop nx t (trail nx T s t).2 := by
  have R := trail_run P.lt T s t
  generalize hq : trail nx T s t = q at R
  have hpos : 0 < q.2.length := by
    cases T with
    | zero => omega
    | succ T => rw [← hq]; simp [trail, hs]
  have hst := R.stop (cnt_le s T) ht
  have hback : it nx q.2.length t = t := by
    rcases (R.seen _).1 hst with h | h
    · rw [← C.it P q.2.length t ht, hs] at h; cases h
    · obtain ⟨i, hi, he⟩ := List.mem_iff_getElem.1 h
      have h1 := R.at_ i hi
      rw [List.getElem?_eq_getElem hi] at h1
      injection h1 with h1
      rw [he] at h1
      have h2 : it nx (q.2.length - i) t = t := by
        refine P.it_inj i _ _ (P.it_lt _ _ ht) ht ?_
        rw [← it_add, show i + (q.2.length - i) = q.2.length by omega, h1]
      cases i with
      | zero => exact h1
      | succ i => exact absurd h2.symm (R.ne 0 (q.2.length - (i + 1)) (by omega) (by omega))
  exact ⟨hpos, R.at_, hback, fun i h0 hi h => R.ne 0 i h0 hi h.symm⟩
theorem Loop.mem {nx : Nat → Nat} {h : Nat} {l : List Nat} (L : Loop nx h l) {k : Nat} : k ∈ l ↔ ∃ i, i < l.length ∧ k = it nx i h := by
  constructor
  · intro hk
    obtain ⟨i, hi, he⟩ := List.mem_iff_getElem.1 hk
    have h1 := L.at_ i hi
    rw [List.getElem?_eq_getElem hi] at h1
    injection h1 with h1
    exact ⟨i, hi, by rw [← he, h1]⟩
  · rintro ⟨i, hi, rfl⟩
    exact List.mem_of_getElem? (L.at_ i hi)
theorem Loop.mul {nx : Nat → Nat} {h : Nat} {l : List Nat} (L : Loop nx h l) : ∀ a, it nx (a * l.length) h = h
  | 0 => by rw [Nat.zero_mul]; rfl
  | a + 1 => by rw [Nat.add_mul, Nat.one_mul, it_add, L.back, L.mul a]
theorem Loop.mod {nx : Nat → Nat} {h : Nat} {l : List Nat} (L : Loop nx h l) (n : Nat) : it nx n h = it nx (n % l.length) h := by
  conv => lhs; rw [← Nat.mod_add_div n l.length, Nat.mul_comm]
  rw [it_add, L.mul]
theorem Loop.mem_it {nx : Nat → Nat} {h : Nat} {l : List Nat} (L : Loop nx h l) (n : Nat) : it nx n h ∈ l := by
  rw [L.mod n, L.mem]
  exact ⟨_, Nat.mod_lt _ L.pos, rfl⟩
theorem Loop.next {nx : Nat → Nat} {h : Nat} {l : List Nat} (L : Loop nx h l) {k : Nat} (hk : k ∈ l) : nx k ∈ l := by
  obtain ⟨i, hi, rfl⟩ := L.mem.1 hk
  rw [← it_succ' nx]
  exact L.mem_it _
/-- back after n steps: exactly if the loop's length divides n; from each of its threads -/
theorem Loop.dvd {nx : Nat → Nat} {h : Nat} {l : List Nat} (L : Loop nx h l) (n : Nat) : it nx n h = h ↔ l.length ∣ n := by
  rw [L.mod n, Nat.dvd_iff_mod_eq_zero]
  constructor
  · intro e
    rcases Nat.eq_zero_or_pos (n % l.length) with h0 | h0
    · exact h0
    · exact absurd e (L.least _ h0 (Nat.mod_lt _ L.pos))
  · intro e; rw [e]; rfl
theorem Loop.dvd_mem {nx : Nat → Nat} {T h : Nat} (P : Perm nx T) {l : List Nat} (L : Loop nx h l) (ht : h < T) {k : Nat} (hk : k ∈ l) (n : Nat) : it nx n k = k ↔ l.length ∣ n := by
  obtain ⟨i, hi, rfl⟩ := L.mem.1 hk
  rw [← it_add, Nat.add_comm, it_add, ← L.dvd n]
  constructor
  · exact fun e => P.it_inj i _ _ (P.it_lt _ _ ht) ht e
  · exact fun e => by rw [e]
/-- the loops found of the numbers below j -/
structure Found (nx : Nat → Nat) (T j : Nat) (q : (Nat → Bool) × List (List Nat)) : Prop where
  closed : Closed nx T q.1
  loop : ∀ l ∈ q.2, ∃ h, h < j ∧ h < T ∧ Loop nx h l ∧ ∀ k ∈ l, h ≤ k
  seen : ∀ k, q.1 k = true ↔ ∃ l ∈ q.2, k ∈ l
  all : ∀ k, k < j → q.1 k = true
  one : ∀ a b : Nat, ∀ x y k, q.2[a]? = some x → q.2[b]? = some y → k ∈ x → k ∈ y → a = b
  up : ∀ a : Nat, ∀ x y, q.2[a]? = some x → q.2[a + 1]? = some y → x.headD 0 < y.headD 0
  head : ∀ l ∈ q.2, l.headD 0 < j
theorem Loop.headD {nx : Nat → Nat} {h : Nat} {l : List Nat} (L : Loop nx h l) : l.headD 0 = h := by
  have := L.at_ 0 L.pos
  cases l with
  | nil => have := L.pos; simp at this
  | cons a l => simp at this; simpa [it] using this
theorem Loop.lt {nx : Nat → Nat} {T h : Nat} (P : Perm nx T) (ht : h < T) {l : List Nat} (L : Loop nx h l) {k : Nat} (hk : k ∈ l) : k < T := by
  obtain ⟨i, _, rfl⟩ := L.mem.1 hk
  exact P.it_lt _ _ ht
theorem loops_found {nx : Nat → Nat} {T : Nat} (P : Perm nx T) : ∀ j, j ≤ T → Found nx T j (loopsTo nx T j)
  | 0, _ => ⟨fun k _ => by simp [loopsTo], fun l h => by simp [loopsTo] at h, fun k => by simp [loopsTo], fun k h => by omega, fun a b x y k h => by simp [loopsTo] at h, fun a x y h => by simp [loopsTo] at h, fun l h => by simp [loopsTo] at h⟩
  | j + 1, hj => by
    have F := loops_found P j (by omega)
    have R := trail_run P.lt T (loopsTo nx T j).1 j
    have e1 : (loopsTo nx T (j + 1)).1 = (trail nx T (loopsTo nx T j).1 j).1 := rfl
    have e2 : (loopsTo nx T (j + 1)).2 = if (trail nx T (loopsTo nx T j).1 j).2 = [] then (loopsTo nx T j).2 else (loopsTo nx T j).2 ++ [(trail nx T (loopsTo nx T j).1 j).2] := rfl
    cases hs : (loopsTo nx T j).1 j with
    | true =>
      have e : trail nx T (loopsTo nx T j).1 j = ((loopsTo nx T j).1, []) := by
        cases T with
        | zero => omega
        | succ T => simp [trail, hs]
      rw [e] at e1 e2
      have e3 : loopsTo nx T (j + 1) = loopsTo nx T j := by
        refine Prod.ext e1 ?_
        rw [e2]; simp
      rw [e3]
      refine ⟨F.closed, fun l h => ?_, F.seen, fun k hk => ?_, F.one, F.up, fun l h => Nat.lt_succ_of_lt (F.head l h)⟩
      · obtain ⟨h0, a, b, c, d⟩ := F.loop l h
        exact ⟨h0, by omega, b, c, d⟩
      · by_cases e : k = j
        · subst e; exact hs
        · exact F.all k (by omega)
    | false =>
      have L := trail_loop P F.closed (show j < T by omega) hs
      generalize hq : trail nx T (loopsTo nx T j).1 j = q at *
      have hne : q.2 ≠ [] := by intro e; have := L.pos; rw [e] at this; simp at this
      rw [if_neg hne] at e2
      have hm : ∀ k, k ∈ q.2 → k < T := fun k hk => L.lt P (by omega) hk
      have hnew : ∀ l ∈ (loopsTo nx T j).2, ∀ k ∈ l, k ∉ q.2 := fun l hl k hk hk2 => by
        obtain ⟨i, hi, rfl⟩ := L.mem.1 hk2
        have h1 := R.new i hi
        rw [(F.seen _).2 ⟨l, hl, hk⟩] at h1; cases h1
      have hprev : ∀ k, k < T → nx k ∈ q.2 → k ∈ q.2 := fun k hk h => by
        obtain ⟨i, hi, he⟩ := L.mem.1 h
        cases i with
        | zero =>
          have hlp := L.pos
          have : nx k = nx (it nx (q.2.length - 1) j) := by
            rw [← it_succ' nx, show q.2.length - 1 + 1 = q.2.length by omega, L.back]; exact he
          rw [P.inj _ _ hk (P.it_lt _ _ (by omega)) this]
          exact L.mem_it _
        | succ i =>
          rw [it_succ' nx] at he
          rw [P.inj _ _ hk (P.it_lt _ _ (by omega)) he]
          exact L.mem_it _
      refine ⟨?_, ?_, ?_, ?_, ?_, ?_, ?_⟩
      · intro k hk
        rw [e1, R.seen, R.seen, ← F.closed k hk]
        constructor
        · rintro (h | h)
          · exact .inl h
          · exact .inr (L.next h)
        · rintro (h | h)
          · exact .inl h
          · exact .inr (hprev k hk h)
      · intro l hl
        rw [e2] at hl
        rcases List.mem_append.1 hl with h | h
        · obtain ⟨h0, a, b, c, d⟩ := F.loop l h
          exact ⟨h0, by omega, b, c, d⟩
        · obtain rfl : l = q.2 := by simpa using h
          refine ⟨j, by omega, by omega, L, fun k hk => ?_⟩
          rcases Nat.lt_or_ge k j with h1 | h1
          · have h2 := F.all k h1
            obtain ⟨l', hl', hk'⟩ := (F.seen k).1 h2
            exact absurd hk (hnew l' hl' k hk')
          · exact h1
      · intro k
        rw [e1, e2, R.seen, F.seen]
        constructor
        · rintro (⟨l, h, h2⟩ | h)
          · exact ⟨l, List.mem_append_left _ h, h2⟩
          · exact ⟨q.2, List.mem_append_right _ (by simp), h⟩
        · rintro ⟨l, h, h2⟩
          rcases List.mem_append.1 h with h | h
          · exact .inl ⟨l, h, h2⟩
          · obtain rfl : l = q.2 := by simpa using h
            exact .inr h2
      · intro k hk
        rw [e1, R.seen]
        by_cases e : k = j
        · subst e; exact .inr (L.mem_it 0)
        · exact .inl (F.all k (by omega))
      · intro a b x y k hx hy hkx hky
        rw [e2] at hx hy
        rw [List.getElem?_append] at hx hy
        split at hx
        · split at hy
          · exact F.one a b x y k hx hy hkx hky
          · have h1 : y = q.2 := by
              rw [List.getElem?_singleton] at hy; split at hy
              · injection hy with hy; exact hy.symm
              · cases hy
            subst h1
            exact absurd hky (hnew x (List.mem_of_getElem? hx) k hkx)
        · split at hy
          · have h1 : x = q.2 := by
              rw [List.getElem?_singleton] at hx; split at hx
              · injection hx with hx; exact hx.symm
              · cases hx
            subst h1
            exact absurd hkx (hnew y (List.mem_of_getElem? hy) k hky)
          · rw [List.getElem?_singleton] at hx hy
            split at hx
            · split at hy
              · omega
              · cases hy
            · cases hx
      · intro a x y hx hy
        rw [e2, List.getElem?_append] at hx hy
        split at hy
        · rw [if_pos (by omega)] at hx
          exact F.up a x y hx hy
        · have h1 : y = q.2 := by
            rw [List.getElem?_singleton] at hy; split at hy
            · injection hy with hy; exact hy.symm
            · cases hy
          have h2 : a + 1 = (loopsTo nx T j).2.length := by
            rw [List.getElem?_singleton] at hy; split at hy
            · omega
            · cases hy
          rw [if_pos (by omega)] at hx
          rw [h1, L.headD]
          exact F.head x (List.mem_of_getElem? hx)
      · intro l hl
        rw [e2] at hl
        rcases List.mem_append.1 hl with h | h
        · exact Nat.lt_succ_of_lt (F.head l h)
        · obtain rfl : l = q.2 := by simpa using h
          rw [L.headD]; omega
end Cyc
end Go.Proofs.Ytdimfbmbomgiaaa
