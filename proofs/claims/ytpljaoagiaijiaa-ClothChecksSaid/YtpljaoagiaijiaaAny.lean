/-
  Plain law: in any order of the works that keeps the order of those that touch, the line is the same, and each thread crosses the same threads in the same order.
-/
import Derived.Test.YtpljaoagiaijiaaMkv
namespace Go.Proofs.Ytpljaoagiaijiaa
open Go.RowKit
/-! ### events: what a work does does not depend on the line -/
/-- none: a pin; else a crossing: its work, its place, and whether it is turned -/
abbrev Ev := Option (Int × Int × Bool)
structure St where
  l : List Int
  xs : List Q4
  np : Nat
def evX (l : List Int) (i at_ : Int) (neg : Bool) : Q4 := if neg then ⟨i, at_, l.getD (at_.toNat + 1) 0, l.getD at_.toNat 0⟩ else ⟨i, at_, l.getD at_.toNat 0, l.getD (at_.toNat + 1) 0⟩
def St.step (s : St) : Ev → St
  | none => { s with np := s.np + 1 }
  | some (i, at_, neg) => { s with l := swapL s.l (evX s.l i at_ neg), xs := s.xs ++ [evX s.l i at_ neg] }
def St.run (s : St) (es : List Ev) : St := es.foldl St.step s
theorem St.run_app (s : St) (a b : List Ev) : s.run (a ++ b) = (s.run a).run b := by unfold St.run; rw [List.foldl_append]
def Mk.abs (s : Mk) : St := ⟨s.l, s.xs, s.ps.length⟩
def evL (i : Int) (mid : Nat) (c : UInt8) : List Ev := if c = 80 then [none] else (crW [c] 1).map (fun n => some (i, mkAt mid n, decide (n < 0)))
def evW (i : Int) (x : Wk) : List Ev := (if x.kind = 2 then [none] else []) ++ x.word.data.toList.flatMap (evL i (mkMid x))
theorem Mk.abs_cross (s : Mk) (i : Int) (mid : Nat) (n : Int) : (s.cross i mid n).abs = s.abs.step (some (i, mkAt mid n, decide (n < 0))) := by
  unfold Mk.cross Mk.abs St.step
  have e : mkX s.l i mid n = evX s.l i (mkAt mid n) (decide (n < 0)) := by
    unfold mkX evX
    by_cases h : n < 0 <;> simp [h]
  simp only [e]
theorem Mk.abs_pin (s : Mk) (i : Int) (mid : Nat) : (s.pin i mid).abs = s.abs.step none := by
  unfold Mk.pin Mk.abs St.step; simp
theorem Mk.abs_crosses (s : Mk) (i : Int) (mid : Nat) (ns : List Int) : ∀ k, k ≤ ns.length → (s.crosses i mid ns k).abs = s.abs.run ((ns.take k).map (fun n => some (i, mkAt mid n, decide (n < 0))))
  | 0, _ => rfl
  | k + 1, hk => by
    obtain ⟨n, hn⟩ := get_of_lt (l := ns) (k := k) (by omega)
    rw [Mk.crosses_succ hn, Mk.abs_cross, Mk.abs_crosses s i mid ns k (by omega), List.take_add_one, hn, List.map_append, St.run_app]
    rfl
theorem Mk.abs_letter (s : Mk) (i : Int) (mid : Nat) (c : UInt8) : (s.letter i mid c).abs = s.abs.run (evL i mid c) := by
  unfold Mk.letter evL
  by_cases h : c = 80
  · rw [if_pos h, if_pos h, Mk.abs_pin]; rfl
  · rw [if_neg h, if_neg h, Mk.abs_crosses _ _ _ _ _ (Nat.le_refl _), List.take_length]
theorem Mk.abs_letters (s : Mk) (i : Int) (mid : Nat) (bs : List UInt8) : ∀ k, k ≤ bs.length → (s.letters i mid bs k).abs = s.abs.run ((bs.take k).flatMap (evL i mid))
  | 0, _ => rfl
  | k + 1, hk => by
    obtain ⟨c, hc⟩ := get_of_lt (l := bs) (k := k) (by omega)
    rw [Mk.letters_succ hc, Mk.abs_letter, Mk.abs_letters s i mid bs k (by omega), List.take_add_one, hc, List.flatMap_append, St.run_app]
    simp
theorem Mk.abs_work (s : Mk) (i : Nat) (x : Wk) : (s.work i x).abs = s.abs.run (evW (i : Int) x) := by
  unfold Mk.work evW
  rw [Mk.abs_letters _ _ _ _ _ (Nat.le_refl _), List.take_length, St.run_app]
  split
  · rw [Mk.abs_pin]; rfl
  · rfl
/-! ### what is kept by an exchange -/
/-- what a thread does at the crossings: by which work, which other thread, and whether it goes over -/
def hist (th : Int) (xs : List Q4) : List (Int × Int × Bool) := xs.flatMap (fun x => (if x.c = th then [(x.a, x.d, true)] else []) ++ (if x.d = th then [(x.a, x.c, false)] else []))
theorem hist_app (th : Int) (xs ys : List Q4) : hist th (xs ++ ys) = hist th xs ++ hist th ys := by unfold hist; rw [List.flatMap_append]
structure Alk (s t : St) : Prop where
  l : s.l = t.l
  np : s.np = t.np
  len : s.xs.length = t.xs.length
  h : ∀ th, hist th s.xs = hist th t.xs
theorem Alk.refl (s : St) : Alk s s := ⟨rfl, rfl, rfl, fun _ => rfl⟩
theorem Alk.symm {s t : St} (h : Alk s t) : Alk t s := ⟨h.l.symm, h.np.symm, h.len.symm, fun th => (h.h th).symm⟩
theorem Alk.trans {s t u : St} (h : Alk s t) (k : Alk t u) : Alk s u := ⟨h.l.trans k.l, h.np.trans k.np, h.len.trans k.len, fun th => (h.h th).trans (k.h th)⟩
theorem Alk.step {s t : St} (h : Alk s t) (e : Ev) : Alk (s.step e) (t.step e) := by
  cases e with
  | none => exact ⟨h.l, congrArg (· + 1) h.np, h.len, h.h⟩
  | some q =>
    obtain ⟨i, a, n⟩ := q
    refine ⟨?_, h.np, ?_, fun th => ?_⟩
    · show swapL s.l (evX s.l i a n) = swapL t.l (evX t.l i a n); rw [h.l]
    · show (s.xs ++ [_]).length = (t.xs ++ [_]).length; rw [List.length_append, List.length_append, h.len]; rfl
    · show hist th (s.xs ++ [evX s.l i a n]) = hist th (t.xs ++ [evX t.l i a n]); rw [hist_app, hist_app, h.h th, h.l]
theorem Alk.run {s t : St} (h : Alk s t) (es : List Ev) : Alk (s.run es) (t.run es) := by
  induction es generalizing s t with
  | nil => exact h
  | cons e es ih => exact ih (h.step e)
/-- a line of 48 threads, each but once -/
structure Gd (l : List Int) : Prop where
  len : l.length = 48
  inj : ∀ (i j : Nat) (v : Int), l[i]? = some v → l[j]? = some v → i = j
def evOk : Ev → Bool
  | none => true
  | some (_, a, _) => decide (0 ≤ a) && decide (a + 1 < 48)
theorem swap_evX {l : List Int} {i a : Int} {n : Bool} {t : Nat} {va vb : Int} (ht : a = (t : Int)) (ha : l[t]? = some va) (hb : l[t + 1]? = some vb) : swapL l (evX l i a n) = (l.set t vb).set (t + 1) va ∧ evX l i a n = if n then ⟨i, a, vb, va⟩ else ⟨i, a, va, vb⟩ := by
  have e : evX l i a n = if n then ⟨i, a, vb, va⟩ else ⟨i, a, va, vb⟩ := by
    unfold evX
    rw [ht, show ((t : Nat) : Int).toNat = t by simp, List.getD_eq_getElem?_getD, List.getD_eq_getElem?_getD, ha, hb]; rfl
  refine ⟨?_, e⟩
  have eb : (evX l i a n).b.toNat = t := by rw [e, ht]; split <;> simp
  unfold swapL
  rw [eb, List.getD_eq_getElem?_getD, List.getD_eq_getElem?_getD, ha, hb]; rfl
theorem Gd.get {l : List Int} (h : Gd l) {t : Nat} (ht : t < 48) : ∃ v, l[t]? = some v := get_of_lt (by rw [h.len]; exact ht)
theorem Gd.swap {l : List Int} (h : Gd l) {t : Nat} {va vb : Int} (ha : l[t]? = some va) (hb : l[t + 1]? = some vb) : Gd ((l.set t vb).set (t + 1) va) := by
  refine ⟨by rw [List.length_set, List.length_set]; exact h.len, fun i j v h1 h2 => ?_⟩
  rw [set2_get ha hb] at h1 h2
  have := congrArg (tr t) (h.inj _ _ v h1 h2)
  rwa [tr_tr, tr_tr] at this
theorem ev_place {i a : Int} {n : Bool} (h : evOk (some (i, a, n)) = true) : ∃ t : Nat, a = (t : Int) ∧ t + 1 < 48 := by
  unfold evOk at h
  simp at h
  exact ⟨a.toNat, by omega, by omega⟩
theorem Gd.step {s : St} (h : Gd s.l) {e : Ev} (he : evOk e = true) : Gd (s.step e).l := by
  cases e with
  | none => exact h
  | some q =>
    obtain ⟨i, a, n⟩ := q
    obtain ⟨t, ht, h48⟩ := ev_place he
    obtain ⟨va, ha⟩ := h.get (show t < 48 by omega)
    obtain ⟨vb, hb⟩ := h.get h48
    show Gd (swapL s.l (evX s.l i a n))
    rw [(swap_evX ht ha hb).1]
    exact h.swap ha hb
theorem Gd.run {s : St} (h : Gd s.l) {es : List Ev} (he : ∀ e ∈ es, evOk e = true) : Gd (s.run es).l := by
  induction es generalizing s with
  | nil => exact h
  | cons e es ih => exact ih (h.step (he e (by simp))) (fun f hf => he f (by simp [hf]))
theorem tr_comm {t u p : Nat} (h : t + 2 ≤ u ∨ u + 2 ≤ t) : tr t (tr u p) = tr u (tr t p) := by
  have h1 := tr_cases u p
  have h2 := tr_cases t p
  have h3 := tr_cases t (tr u p)
  have h4 := tr_cases u (tr t p)
  omega
/-- two events whose places are apart -/
def evApart : Ev → Ev → Prop
  | some (_, a, _), some (_, b, _) => a + 2 ≤ b ∨ b + 2 ≤ a
  | _, _ => True
theorem hist_two {th : Int} {x y : Q4} (h1 : x.c ≠ y.c) (h2 : x.c ≠ y.d) (h3 : x.d ≠ y.c) (h4 : x.d ≠ y.d) : hist th [x, y] = hist th [y, x] := by
  unfold hist
  simp only [List.flatMap_cons, List.flatMap_nil, List.append_nil]
  by_cases a1 : x.c = th <;> by_cases a2 : x.d = th <;> by_cases a3 : y.c = th <;> by_cases a4 : y.d = th <;> simp [a1, a2, a3, a4] <;> first | (exact absurd (a1.trans a3.symm) h1) | (exact absurd (a1.trans a4.symm) h2) | (exact absurd (a2.trans a3.symm) h3) | (exact absurd (a2.trans a4.symm) h4)
theorem step_swap {s : St} (h : Gd s.l) {e f : Ev} (he : evOk e = true) (hf : evOk f = true) (ha : evApart e f) : Alk ((s.step e).step f) ((s.step f).step e) := by
  cases e with
  | none => cases f with
    | none => exact Alk.refl _
    | some q => exact Alk.refl _
  | some q =>
    cases f with
    | none => exact Alk.refl _
    | some r =>
      obtain ⟨i, a, n⟩ := q
      obtain ⟨j, b, m⟩ := r
      obtain ⟨t, rfl, h48⟩ := ev_place he
      obtain ⟨u, rfl, k48⟩ := ev_place hf
      have hap : t + 2 ≤ u ∨ u + 2 ≤ t := by have : (t : Int) + 2 ≤ u ∨ (u : Int) + 2 ≤ t := ha; omega
      obtain ⟨va, hva⟩ := h.get (show t < 48 by omega)
      obtain ⟨vb, hvb⟩ := h.get h48
      obtain ⟨wa, hwa⟩ := h.get (show u < 48 by omega)
      obtain ⟨wb, hwb⟩ := h.get k48
      obtain ⟨e1, e2⟩ := swap_evX (i := i) (n := n) rfl hva hvb
      obtain ⟨f1, f2⟩ := swap_evX (i := j) (n := m) rfl hwa hwb
      have c1 : ((s.l.set t vb).set (t + 1) va)[u]? = some wa := by rw [set2_get hva hvb, tr_c (by omega) (by omega)]; exact hwa
      have c2 : ((s.l.set t vb).set (t + 1) va)[u + 1]? = some wb := by rw [set2_get hva hvb, tr_c (by omega) (by omega)]; exact hwb
      have c3 : ((s.l.set u wb).set (u + 1) wa)[t]? = some va := by rw [set2_get hwa hwb, tr_c (by omega) (by omega)]; exact hva
      have c4 : ((s.l.set u wb).set (u + 1) wa)[t + 1]? = some vb := by rw [set2_get hwa hwb, tr_c (by omega) (by omega)]; exact hvb
      obtain ⟨g1, g2⟩ := swap_evX (i := j) (n := m) rfl c1 c2
      obtain ⟨k1, k2⟩ := swap_evX (i := i) (n := n) rfl c3 c4
      have L1 : ((s.step (some (i, (t : Int), n))).step (some (j, (u : Int), m))) = ⟨(((s.l.set t vb).set (t + 1) va).set u wb).set (u + 1) wa, s.xs ++ [evX s.l i (t : Int) n] ++ [evX s.l j (u : Int) m], s.np⟩ := by
        show St.mk (swapL (swapL s.l (evX s.l i (t : Int) n)) (evX (swapL s.l (evX s.l i (t : Int) n)) j (u : Int) m)) (s.xs ++ [evX s.l i (t : Int) n] ++ [evX (swapL s.l (evX s.l i (t : Int) n)) j (u : Int) m]) s.np = _
        rw [e1, g1, g2, f2]
      have L2 : ((s.step (some (j, (u : Int), m))).step (some (i, (t : Int), n))) = ⟨(((s.l.set u wb).set (u + 1) wa).set t vb).set (t + 1) va, s.xs ++ [evX s.l j (u : Int) m] ++ [evX s.l i (t : Int) n], s.np⟩ := by
        show St.mk (swapL (swapL s.l (evX s.l j (u : Int) m)) (evX (swapL s.l (evX s.l j (u : Int) m)) i (t : Int) n)) (s.xs ++ [evX s.l j (u : Int) m] ++ [evX (swapL s.l (evX s.l j (u : Int) m)) i (t : Int) n]) s.np = _
        rw [f1, k1, k2, e2]
      rw [L1, L2]
      have d : ∀ {p q : Nat} {v w : Int}, s.l[p]? = some v → s.l[q]? = some w → p ≠ q → v ≠ w := fun hp hq hpq e => hpq (h.inj _ _ _ hp (e ▸ hq))
      refine ⟨?_, rfl, by simp, fun th => ?_⟩
      · apply List.ext_getElem?
        intro p
        show ((((s.l.set t vb).set (t + 1) va).set u wb).set (u + 1) wa)[p]? = ((((s.l.set u wb).set (u + 1) wa).set t vb).set (t + 1) va)[p]?
        rw [set2_get c1 c2, set2_get hva hvb, set2_get c3 c4, set2_get hwa hwb]
        rw [tr_comm hap]
      · show hist th (s.xs ++ [evX s.l i (t : Int) n] ++ [evX s.l j (u : Int) m]) = hist th (s.xs ++ [evX s.l j (u : Int) m] ++ [evX s.l i (t : Int) n])
        rw [List.append_assoc, List.append_assoc, hist_app, hist_app th s.xs]
        congr 1
        refine hist_two ?_ ?_ ?_ ?_ <;> rw [e2, f2] <;> cases n <;> cases m <;> first | exact d hva hwa (by omega) | exact d hva hwb (by omega) | exact d hvb hwa (by omega) | exact d hvb hwb (by omega)
theorem run_one {s : St} (h : Gd s.l) {e : Ev} {es : List Ev} (he : evOk e = true) (hes : ∀ f ∈ es, evOk f = true ∧ evApart f e) : Alk ((s.run es).step e) ((s.step e).run es) := by
  induction es generalizing s with
  | nil => exact Alk.refl _
  | cons f es ih =>
    have hf := hes f (by simp)
    have h1 := ih (s := s.step f) (h.step hf.1) (fun g hg => hes g (by simp [hg]))
    exact h1.trans ((step_swap h hf.1 he hf.2).run es)
theorem run_swap {s : St} (h : Gd s.l) {es fs : List Ev} (he : ∀ e ∈ es, evOk e = true) (hf : ∀ f ∈ fs, evOk f = true) (hap : ∀ e ∈ es, ∀ f ∈ fs, evApart f e) : Alk ((s.run fs).run es) ((s.run es).run fs) := by
  induction es generalizing s with
  | nil => exact Alk.refl _
  | cons e es ih =>
    have h1 := run_one h (he e (by simp)) (fun f hf' => ⟨hf f hf', hap e (by simp) f hf'⟩)
    have h2 := ih (s := s.step e) (h.step (he e (by simp))) (fun g hg => he g (by simp [hg])) (fun g hg f hf' => hap g (by simp [hg]) f hf')
    exact (h1.run es).trans h2
/-! ### works in another order -/
abbrev LW := Int × Wk
def evs (W : List LW) : List Ev := W.flatMap (fun p => evW p.1 p.2)
def lwOk (p : LW) : Prop := 0 ≤ p.2.at_ ∧ p.2.at_ ≤ 22
def lwApart (p q : LW) : Prop := p.2.at_ + 2 ≤ q.2.at_ ∨ q.2.at_ + 2 ≤ p.2.at_
theorem evW_mem {i : Int} {x : Wk} {e : Ev} (h0 : 0 ≤ x.at_) (h : e ∈ evW i x) : e = none ∨ ∃ a n, e = some (i, a, n) ∧ 2 * x.at_ ≤ a ∧ a ≤ 2 * x.at_ + 2 := by
  unfold evW at h
  rcases List.mem_append.1 h with h | h
  · split at h
    · left; simpa using h
    · simp at h
  · obtain ⟨c, _, hc⟩ := List.mem_flatMap.1 h
    unfold evL at hc
    split at hc
    · left; simpa using hc
    · obtain ⟨n, hn, rfl⟩ := List.mem_map.1 hc
      obtain ⟨n0, n1, n2⟩ := crL_mem c n hn
      right
      refine ⟨_, _, rfl, ?_, ?_⟩ <;> (unfold mkAt mkMid; split <;> omega)
theorem evW_ok {p : LW} (h : lwOk p) : ∀ e ∈ evW p.1 p.2, evOk e = true := fun e he => by
  rcases evW_mem h.1 he with rfl | ⟨a, n, rfl, h1, h2⟩
  · rfl
  · have := h.1; have := h.2; unfold evOk; simp; omega
theorem evW_apart {p q : LW} (hp : lwOk p) (hq : lwOk q) (h : lwApart p q) : ∀ e ∈ evW p.1 p.2, ∀ f ∈ evW q.1 q.2, evApart e f := fun e he f hf => by
  rcases evW_mem hp.1 he with rfl | ⟨a, n, rfl, h1, h2⟩
  · exact trivial
  · rcases evW_mem hq.1 hf with rfl | ⟨b, m, rfl, k1, k2⟩
    · exact trivial
    · show a + 2 ≤ b ∨ b + 2 ≤ a
      unfold lwApart at h; omega
inductive Reo : List LW → List LW → Prop
  | nil : Reo [] []
  | cons {A B W : List LW} {x : LW} : (∀ y ∈ A, lwApart y x) → Reo (A ++ B) W → Reo (A ++ x :: B) (x :: W)
theorem Reo.alike {V W : List LW} (h : Reo V W) : ∀ s : St, Gd s.l → (∀ p ∈ V, lwOk p) → Alk (s.run (evs V)) (s.run (evs W)) := by
  induction h with
  | nil => intro s _ _; exact Alk.refl _
  | @cons A B W x hA _ ih =>
    intro s hs hV
    have hx : lwOk x := hV x (by simp)
    have hA2 : ∀ p ∈ A, lwOk p := fun p hp => hV p (by simp [hp])
    have hAB : ∀ p ∈ A ++ B, lwOk p := fun p hp => hV p (by
      rcases List.mem_append.1 hp with hp | hp
      · simp [hp]
      · simp [hp])
    have e1 : s.run (evs (A ++ x :: B)) = ((s.run (evs A)).run (evW x.1 x.2)).run (evs B) := by
      unfold evs; rw [List.flatMap_append, List.flatMap_cons, St.run_app, St.run_app]
    have e2 : s.run (evs (x :: W)) = (s.run (evW x.1 x.2)).run (evs W) := by unfold evs; rw [List.flatMap_cons, St.run_app]
    have e3 : (s.run (evW x.1 x.2)).run (evs (A ++ B)) = ((s.run (evW x.1 x.2)).run (evs A)).run (evs B) := by unfold evs; rw [List.flatMap_append, St.run_app]
    have hAe : ∀ e ∈ evs A, evOk e = true ∧ ∀ f ∈ evW x.1 x.2, evApart e f := fun e he => by
      obtain ⟨p, hp, he⟩ := List.mem_flatMap.1 he
      exact ⟨evW_ok (hA2 p hp) e he, fun f hf => evW_apart (hA2 p hp) hx (hA p hp) e he f hf⟩
    have sw := run_swap hs (evW_ok hx) (fun e he => (hAe e he).1) (fun f hf e he => (hAe e he).2 f hf)
    rw [e1, e2]
    refine (sw.run (evs B)).trans ?_
    rw [← e3]
    exact ih _ (hs.run (evW_ok hx)) hAB
end Go.Proofs.Ytpljaoagiaijiaa
