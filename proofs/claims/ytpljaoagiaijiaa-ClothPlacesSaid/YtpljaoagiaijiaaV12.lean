/-
  Plain law: in any order of the works that keeps the order of those that touch, the line is the same, and each thread crosses the same threads in the same order.
-/
import Derived.Test.YtpljaoagiaijiaaV1
import Derived.Test.YtpljaoagiaijiaaV6
import Derived.Test.YtpljaoagiaijiaaV9
namespace Go.Proofs.Ytpljaoagiaijiaa
open Go.RowKit
/-! ### events: what a work does does not depend on the line -/
/-- none: a pin; else a crossing: its work, its place, and whether it is turned -/
abbrev Ev := Option (Int × Int × Bool)
structure St where
  l : List Int
  xs : List Q4
  np : Nat
def evX (l : List Int) (i at_ : Int) (neg : Bool) : Q4 := if neg then ⟨i, at_, l.getD (at_.toNat + 1) 0, l.getD at_.toNat 0⟩ else ⟨i, at_, l.getD at_.toNat 0, l.getD (at_.toNat + 1) 0⟩
def St.step (s : St) : Ev → St
  | none => { s with np := s.np + 1 }
  | some (i, at_, neg) => { s with l := swapL s.l (evX s.l i at_ neg), xs := s.xs ++ [evX s.l i at_ neg] }
def St.run (s : St) (es : List Ev) : St := es.foldl St.step s
theorem St.run_app (s : St) (a b : List Ev) : s.run (a ++ b) = (s.run a).run b := by unfold St.run; rw [List.foldl_append]
def Mk.abs (s : Mk) : St := ⟨s.l, s.xs, s.ps.length⟩
def evL (i : Int) (mid : Nat) (c : UInt8) : List Ev := if c = 80 then [none] else (crW [c] 1).map (fun n => some (i, mkAt mid n, decide (n < 0)))
def evW (i : Int) (x : Wk) : List Ev := (if x.kind = 2 then [none] else []) ++ x.word.data.toList.flatMap (evL i (mkMid x))
theorem Mk.abs_cross (s : Mk) (i : Int) (mid : Nat) (n : Int) : (s.cross i mid n).abs = s.abs.step (some (i, mkAt mid n, decide (n < 0))) := by
  unfold Mk.cross Mk.abs St.step
  have e : mkX s.l i mid n = evX s.l i (mkAt mid n) (decide (n < 0)) := by
    unfold mkX evX
    by_cases h : n < 0 <;> simp [h]
  simp only [e]
theorem Mk.abs_pin (s : Mk) (i : Int) (mid : Nat) : (s.pin i mid).abs = s.abs.step none := by
  unfold Mk.pin Mk.abs St.step; simp
theorem Mk.abs_crosses (s : Mk) (i : Int) (mid : Nat) (ns : List Int) : ∀ k, k ≤ ns.length → (s.crosses i mid ns k).abs = s.abs.run ((ns.take k).map (fun n => some (i, mkAt mid n, decide (n < 0))))
  | 0, _ => rfl
  | k + 1, hk => by
    obtain ⟨n, hn⟩ := get_of_lt (l := ns) (k := k) (by omega)
    rw [Mk.crosses_succ hn, Mk.abs_cross, Mk.abs_crosses s i mid ns k (by omega), List.take_add_one, hn, List.map_append, St.run_app]
    rfl
theorem Mk.abs_letter (s : Mk) (i : Int) (mid : Nat) (c : UInt8) : (s.letter i mid c).abs = s.abs.run (evL i mid c) := by
  unfold Mk.letter evL
  by_cases h : c = 80
  · rw [if_pos h, if_pos h, Mk.abs_pin]; rfl
  · rw [if_neg h, if_neg h, Mk.abs_crosses _ _ _ _ _ (Nat.le_refl _), List.take_length]
theorem Mk.abs_letters (s : Mk) (i : Int) (mid : Nat) (bs : List UInt8) : ∀ k, k ≤ bs.length → (s.letters i mid bs k).abs = s.abs.run ((bs.take k).flatMap (evL i mid))
  | 0, _ => rfl
  | k + 1, hk => by
    obtain ⟨c, hc⟩ := get_of_lt (l := bs) (k := k) (by omega)
    rw [Mk.letters_succ hc, Mk.abs_letter, Mk.abs_letters s i mid bs k (by omega), List.take_add_one, hc, List.flatMap_append, St.run_app]
    simp
theorem Mk.abs_work (s : Mk) (i : Nat) (x : Wk) : (s.work i x).abs = s.abs.run (evW (i : Int) x) := by
  unfold Mk.work evW
  rw [Mk.abs_letters _ _ _ _ _ (Nat.le_refl _), List.take_length, St.run_app]
  split
  · rw [Mk.abs_pin]; rfl
  · rfl
/-! ### what is kept by an exchange -/
/-- what a thread does at the crossings: by which work, which other thread, and whether it goes over -/
def hist (th : Int) (xs : List Q4) : List (Int × Int × Bool) := xs.flatMap (fun x => (if x.c = th then [(x.a, x.d, true)] else []) ++ (if x.d = th then [(x.a, x.c, false)] else []))
theorem hist_app (th : Int) (xs ys : List Q4) : hist th (xs ++ ys) = hist th xs ++ hist th ys := by unfold hist; rw [List.flatMap_append]
structure Alk (s t : St) : Prop where
  l : s.l = t.l
  np : s.np = t.np
  len : s.xs.length = t.xs.length
  h : ∀ th, hist th s.xs = hist th t.xs
theorem Alk.refl (s : St) : Alk s s := ⟨rfl, rfl, rfl, fun _ => rfl⟩
theorem Alk.symm {s t : St} (h : Alk s t) : Alk t s := ⟨h.l.symm, h.np.symm, h.len.symm, fun th => (h.h th).symm⟩
theorem Alk.trans {s t u : St} (h : Alk s t) (k : Alk t u) : Alk s u := ⟨h.l.trans k.l, h.np.trans k.np, h.len.trans k.len, fun th => (h.h th).trans (k.h th)⟩
theorem Alk.step {s t : St} (h : Alk s t) (e : Ev) : Alk (s.step e) (t.step e) := by
  cases e with
  | none => exact ⟨h.l, congrArg (· + 1) h.np, h.len, h.h⟩
  | some q =>
    obtain ⟨i, a, n⟩ := q
    refine ⟨?_, h.np, ?_, fun th => ?_⟩
    · show swapL s.l (evX s.l i a n) = swapL t.l (evX t.l i a n); rw [h.l]
    · show (s.xs ++ [_]).length = (t.xs ++ [_]).length; rw [List.length_append, List.length_append, h.len]; rfl
    · show hist th (s.xs ++ [evX s.l i a n]) = hist th (t.xs ++ [evX t.l i a n]); rw [hist_app, hist_app, h.h th, h.l]
theorem Alk.run {s t : St} (h : Alk s t) (es : List Ev) : Alk (s.run es) (t.run es) := by
  induction es generalizing s t with
  | nil => exact h
  | cons e es ih => exact ih (h.step e)
/-- a line of 48 threads, each but once -/
structure Gd (l : List Int) : Prop where
  len : l.length = 48
  inj : ∀ (i j : Nat) (v : Int), l[i]? = some v → l[j]? = some v → i = j
def evOk : Ev → Bool
  | none => true
  | some (_, a, _) => decide (0 ≤ a) && decide (a + 1 < 48)
theorem swap_evX {l : List Int} {i a : Int} {n : Bool} {t : Nat} {va vb : Int} (ht : a = (t : Int)) (ha : l[t]? = some va) (hb : l[t + 1]? = some vb) : swapL l (evX l i a n) = (l.set t vb).set (t + 1) va ∧ evX l i a n = if n then ⟨i, a, vb, va⟩ else ⟨i, a, va, vb⟩ := by
  have e : evX l i a n = if n then ⟨i, a, vb, va⟩ else ⟨i, a, va, vb⟩ := by
    unfold evX
    rw [ht, show ((t : Nat) : Int).toNat = t by simp, List.getD_eq_getElem?_getD, List.getD_eq_getElem?_getD, ha, hb]; rfl
  refine ⟨?_, e⟩
  have eb : (evX l i a n).b.toNat = t := by rw [e, ht]; split <;> simp
  unfold swapL
  rw [eb, List.getD_eq_getElem?_getD, List.getD_eq_getElem?_getD, ha, hb]; rfl
theorem Gd.get {l : List Int} (h : Gd l) {t : Nat} (ht : t < 48) : ∃ v, l[t]? = some v := get_of_lt (by rw [h.len]; exact ht)
theorem Gd.swap {l : List Int} (h : Gd l) {t : Nat} {va vb : Int} (ha : l[t]? = some va) (hb : l[t + 1]? = some vb) : Gd ((l.set t vb).set (t + 1) va) := by
  refine ⟨by rw [List.length_set, List.length_set]; exact h.len, fun i j v h1 h2 => ?_⟩
  rw [set2_get ha hb] at h1 h2
  have := congrArg (tr t) (h.inj _ _ v h1 h2)
  rwa [tr_tr, tr_tr] at this
theorem ev_place {i a : Int} {n : Bool} (h : evOk (some (i, a, n)) = true) : ∃ t : Nat, a = (t : Int) ∧ t + 1 < 48 := by
  unfold evOk at h
  simp at h
  exact ⟨a.toNat, by omega, by omega⟩
theorem Gd.step {s : St} (h : Gd s.l) {e : Ev} (he : evOk e = true) : Gd (s.step e).l := by
  cases e with
  | none => exact h
  | some q =>
    obtain ⟨i, a, n⟩ := q
    obtain ⟨t, ht, h48⟩ := ev_place he
    obtain ⟨va, ha⟩ := h.get (show t < 48 by omega)
    obtain ⟨vb, hb⟩ := h.get h48
    show Gd (swapL s.l (evX s.l i a n))
    rw [(swap_evX ht ha hb).1]
    exact h.swap ha hb
theorem Gd.run {s : St} (h : Gd s.l) {es : List Ev} (he : ∀ e ∈ es, evOk e = true) : Gd (s.run es).l := by
  induction es generalizing s with
  | nil => exact h
  | cons e es ih => exact ih (h.step (he e (by simp))) (fun f hf => he f (by simp [hf]))
theorem tr_comm {t u p : Nat} (h : t + 2 ≤ u ∨ u + 2 ≤ t) : tr t (tr u p) = tr u (tr t p) := by
  have h1 := tr_cases u p
  have h2 := tr_cases t p
  have h3 := tr_cases t (tr u p)
  have h4 := tr_cases u (tr t p)
  omega
/-- two events whose places are apart -/
def evApart : Ev → Ev → Prop
  | some (_, a, _), some (_, b, _) => a + 2 ≤ b ∨ b + 2 ≤ a
  | _, _ => True
theorem hist_two {th : Int} {x y : Q4} (h1 : x.c ≠ y.c) (h2 : x.c ≠ y.d) (h3 : x.d ≠ y.c) (h4 : x.d ≠ y.d) : hist th [x, y] = hist th [y, x] := by
  unfold hist
  simp only [List.flatMap_cons, List.flatMap_nil, List.append_nil]
  by_cases a1 : x.c = th <;> by_cases a2 : x.d = th <;> by_cases a3 : y.c = th <;> by_cases a4 : y.d = th <;> simp [a1, a2, a3, a4] <;> first | (exact absurd (a1.trans a3.symm) h1) | (exact absurd (a1.trans a4.symm) h2) | (exact absurd (a2.trans a3.symm) h3) | (exact absurd (a2.trans a4.symm) h4)
theorem step_swap {s : St} (h : Gd s.l) {e f : Ev} (he : evOk e = true) (hf : evOk f = true) (ha : evApart e f) : Alk ((s.step e).step f) ((s.step f).step e) := by
  cases e with
  | none => cases f with
    | none => exact Alk.refl _
    | some q => exact Alk.refl _
  | some q =>
    cases f with
    | none => exact Alk.refl _
    | some r =>
      obtain ⟨i, a, n⟩ := q
      obtain ⟨j, b, m⟩ := r
      obtain ⟨t, rfl, h48⟩ := ev_place he
      obtain ⟨u, rfl, k48⟩ := ev_place hf
      have hap : t + 2 ≤ u ∨ u + 2 ≤ t := by have : (t : Int) + 2 ≤ u ∨ (u : Int) + 2 ≤ t := ha; omega
      obtain ⟨va, hva⟩ := h.get (show t < 48 by omega)
      obtain ⟨vb, hvb⟩ := h.get h48
      obtain ⟨wa, hwa⟩ := h.get (show u < 48 by omega)
      obtain ⟨wb, hwb⟩ := h.get k48
      obtain ⟨e1, e2⟩ := swap_evX (i := i) (n := n) rfl hva hvb
      obtain ⟨f1, f2⟩ := swap_evX (i := j) (n := m) rfl hwa hwb
      have c1 : ((s.l.set t vb).set (t + 1) va)[u]? = some wa := by rw [set2_get hva hvb, tr_c (by omega) (by omega)]; exact hwa
      have c2 : ((s.l.set t vb).set (t + 1) va)[u + 1]? = some wb := by rw [set2_get hva hvb, tr_c (by omega) (by omega)]; exact hwb
      have c3 : ((s.l.set u wb).set (u + 1) wa)[t]? = some va := by rw [set2_get hwa hwb, tr_c (by omega) (by omega)]; exact hva
      have c4 : ((s.l.set u wb).set (u + 1) wa)[t + 1]? = some vb := by rw [set2_get hwa hwb, tr_c (by omega) (by omega)]; exact hvb
      obtain ⟨g1, g2⟩ := swap_evX (i := j) (n := m) rfl c1 c2
      obtain ⟨k1, k2⟩ := swap_evX (i := i) (n := n) rfl c3 c4
      have L1 : ((s.step (some (i, (t : Int), n))).step (some (j, (u : Int), m))) = ⟨(((s.l.set t vb).set (t + 1) va).set u wb).set (u + 1) wa, s.xs ++ [evX s.l i (t : Int) n] ++ [evX s.l j (u : Int) m], s.np⟩ := by
        show St.mk (swapL (swapL s.l (evX s.l i (t : Int) n)) (evX (swapL s.l (evX s.l i (t : Int) n)) j (u : Int) m)) (s.xs ++ [evX s.l i (t : Int) n] ++ [evX (swapL s.l (evX s.l i (t : Int) n)) j (u : Int) m]) s.np = _
        rw [e1, g1, g2, f2]
      have L2 : ((s.step (some (j, (u : Int), m))).step (some (i, (t : Int), n))) = ⟨(((s.l.set u wb).set (u + 1) wa).set t vb).set (t + 1) va, s.xs ++ [evX s.l j (u : Int) m] ++ [evX s.l i (t : Int) n], s.np⟩ := by
        show St.mk (swapL (swapL s.l (evX s.l j (u : Int) m)) (evX (swapL s.l (evX s.l j (u : Int) m)) i (t : Int) n)) (s.xs ++ [evX s.l j (u : Int) m] ++ [evX (swapL s.l (evX s.l j (u : Int) m)) i (t : Int) n]) s.np = _
        rw [f1, k1, k2, e2]
      rw [L1, L2]
      have d : ∀ {p q : Nat} {v w : Int}, s.l[p]? = some v → s.l[q]? = some w → p ≠ q → v ≠ w := fun hp hq hpq e => hpq (h.inj _ _ _ hp (e ▸ hq))
      refine ⟨?_, rfl, by simp, fun th => ?_⟩
      · apply List.ext_getElem?
        intro p
        show ((((s.l.set t vb).set (t + 1) va).set u wb).set (u + 1) wa)[p]? = ((((s.l.set u wb).set (u + 1) wa).set t vb).set (t + 1) va)[p]?
        rw [set2_get c1 c2, set2_get hva hvb, set2_get c3 c4, set2_get hwa hwb]
        rw [tr_comm hap]
      · show hist th (s.xs ++ [evX s.l i (t : Int) n] ++ [evX s.l j (u : Int) m]) = hist th (s.xs ++ [evX s.l j (u : Int) m] ++ [evX s.l i (t : Int) n])
        rw [List.append_assoc, List.append_assoc, hist_app, hist_app th s.xs]
        congr 1
        refine hist_two ?_ ?_ ?_ ?_ <;> rw [e2, f2] <;> cases n <;> cases m <;> first | exact d hva hwa (by omega) | exact d hva hwb (by omega) | exact d hvb hwa (by omega) | exact d hvb hwb (by omega)
theorem run_one {s : St} (h : Gd s.l) {e : Ev} {es : List Ev} (he : evOk e = true) (hes : ∀ f ∈ es, evOk f = true ∧ evApart f e) : Alk ((s.run es).step e) ((s.step e).run es) := by
  induction es generalizing s with
  | nil => exact Alk.refl _
  | cons f es ih =>
    have hf := hes f (by simp)
    have h1 := ih (s := s.step f) (h.step hf.1) (fun g hg => hes g (by simp [hg]))
    exact h1.trans ((step_swap h hf.1 he hf.2).run es)
theorem run_swap {s : St} (h : Gd s.l) {es fs : List Ev} (he : ∀ e ∈ es, evOk e = true) (hf : ∀ f ∈ fs, evOk f = true) (hap : ∀ e ∈ es, ∀ f ∈ fs, evApart f e) : Alk ((s.run fs).run es) ((s.run es).run fs) := by
  induction es generalizing s with
  | nil => exact Alk.refl _
  | cons e es ih =>
    have h1 := run_one h (he e (by simp)) (fun f hf' => ⟨hf f hf', hap e (by simp) f hf'⟩)
    have h2 := ih (s := s.step e) (h.step (he e (by simp))) (fun g hg => he g (by simp [hg])) (fun g hg f hf' => hap g (by simp [hg]) f hf')
    exact (h1.run es).trans h2
/-! ### works in another order -/
abbrev LW := Int × Wk
def evs (W : List LW) : List Ev := W.flatMap (fun p => evW p.1 p.2)
def lwOk (p : LW) : Prop := 0 ≤ p.2.at_ ∧ p.2.at_ ≤ 22
def lwApart (p q : LW) : Prop := p.2.at_ + 2 ≤ q.2.at_ ∨ q.2.at_ + 2 ≤ p.2.at_
theorem evW_mem {i : Int} {x : Wk} {e : Ev} (h0 : 0 ≤ x.at_) (h : e ∈ evW i x) : e = none ∨ ∃ a n, e = some (i, a, n) ∧ 2 * x.at_ ≤ a ∧ a ≤ 2 * x.at_ + 2 := by
  unfold evW at h
  rcases List.mem_append.1 h with h | h
  · split at h
    · left; simpa using h
    · simp at h
  · obtain ⟨c, _, hc⟩ := List.mem_flatMap.1 h
    unfold evL at hc
    split at hc
    · left; simpa using hc
    · obtain ⟨n, hn, rfl⟩ := List.mem_map.1 hc
      obtain ⟨n0, n1, n2⟩ := crL_mem c n hn
      right
      refine ⟨_, _, rfl, ?_, ?_⟩ <;> (unfold mkAt mkMid; split <;> omega)
theorem evW_ok {p : LW} (h : lwOk p) : ∀ e ∈ evW p.1 p.2, evOk e = true := fun e he => by
  rcases evW_mem h.1 he with rfl | ⟨a, n, rfl, h1, h2⟩
  · rfl
  · have := h.1; have := h.2; unfold evOk; simp; omega
theorem evW_apart {p q : LW} (hp : lwOk p) (hq : lwOk q) (h : lwApart p q) : ∀ e ∈ evW p.1 p.2, ∀ f ∈ evW q.1 q.2, evApart e f := fun e he f hf => by
  rcases evW_mem hp.1 he with rfl | ⟨a, n, rfl, h1, h2⟩
  · exact trivial
  · rcases evW_mem hq.1 hf with rfl | ⟨b, m, rfl, k1, k2⟩
    · exact trivial
    · show a + 2 ≤ b ∨ b + 2 ≤ a
      unfold lwApart at h; omega
inductive Reo : List LW → List LW → Prop
  | nil : Reo [] []
  | cons {A B W : List LW} {x : LW} : (∀ y ∈ A, lwApart y x) → Reo (A ++ B) W → Reo (A ++ x :: B) (x :: W)
theorem Reo.alike {V W : List LW} (h : Reo V W) : ∀ s : St, Gd s.l → (∀ p ∈ V, lwOk p) → Alk (s.run (evs V)) (s.run (evs W)) := by
  induction h with
  | nil => intro s _ _; exact Alk.refl _
  | @cons A B W x hA _ ih =>
    intro s hs hV
    have hx : lwOk x := hV x (by simp)
    have hA2 : ∀ p ∈ A, lwOk p := fun p hp => hV p (by simp [hp])
    have hAB : ∀ p ∈ A ++ B, lwOk p := fun p hp => hV p (by
      rcases List.mem_append.1 hp with hp | hp
      · simp [hp]
      · simp [hp])
    have e1 : s.run (evs (A ++ x :: B)) = ((s.run (evs A)).run (evW x.1 x.2)).run (evs B) := by
      unfold evs; rw [List.flatMap_append, List.flatMap_cons, St.run_app, St.run_app]
    have e2 : s.run (evs (x :: W)) = (s.run (evW x.1 x.2)).run (evs W) := by unfold evs; rw [List.flatMap_cons, St.run_app]
    have e3 : (s.run (evW x.1 x.2)).run (evs (A ++ B)) = ((s.run (evW x.1 x.2)).run (evs A)).run (evs B) := by unfold evs; rw [List.flatMap_append, St.run_app]
    have hAe : ∀ e ∈ evs A, evOk e = true ∧ ∀ f ∈ evW x.1 x.2, evApart e f := fun e he => by
      obtain ⟨p, hp, he⟩ := List.mem_flatMap.1 he
      exact ⟨evW_ok (hA2 p hp) e he, fun f hf => evW_apart (hA2 p hp) hx (hA p hp) e he f hf⟩
    have sw := run_swap hs (evW_ok hx) (fun e he => (hAe e he).1) (fun f hf e he => (hAe e he).2 f hf)
    rw [e1, e2]
    refine (sw.run (evs B)).trans ?_
    rw [← e3]
    exact ih _ (hs.run (evW_ok hx)) hAB
end Go.Proofs.Ytpljaoagiaijiaa
/-
  Plain law: what the document's Order allows is an order that keeps those that touch; the cloths of both sheets.
-/
namespace Go.Proofs.Ytpljaoagiaijiaa
open Go.RowKit
def touchB (x y : Wk) : Bool := decide (x.at_ - y.at_ ≤ 1) && decide (y.at_ - x.at_ ≤ 1)
def wk0 : Wk := ⟨0, 0, ⟨#[]⟩⟩
def wAt (ws : List Wk) (a : Nat) : Wk := ws.getD a wk0
theorem wAt_get {ws : List Wk} {a : Nat} {x : Wk} (h : ws[a]? = some x) : wAt ws a = x := by unfold wAt; rw [List.getD_eq_getElem?_getD, h]; rfl
/-- among the first k of the works before b, each that touches it is done -/
def befTo (ws : List Wk) (done : List Int) (b k : Nat) : Bool := (List.range k).all (fun a => !(touchB (wAt ws a) (wAt ws b) && !done.contains (a : Int)))
def ordI (ws : List Wk) (order : List Int) (i : Nat) : Bool := decide (0 ≤ order.getD i 0) && decide (order.getD i 0 < (ws.length : Int)) && !(order.take i).contains (order.getD i 0) && befTo ws (order.take i) (order.getD i 0).toNat (order.getD i 0).toNat
def ordTo (ws : List Wk) (order : List Int) (k : Nat) : Bool := (List.range k).all (ordI ws order)
def ordB (ws : List Wk) (order : List Int) : Bool := (order.length == ws.length) && ordTo ws order order.length
theorem befTo_succ (ws : List Wk) (done : List Int) (b k : Nat) : befTo ws done b (k + 1) = (befTo ws done b k && !(touchB (wAt ws k) (wAt ws b) && !done.contains (k : Int))) := by
  unfold befTo; rw [List.range_succ, List.all_append]; simp
theorem ordTo_succ (ws : List Wk) (order : List Int) (k : Nat) : ordTo ws order (k + 1) = (ordTo ws order k && ordI ws order k) := by
  unfold ordTo; rw [List.range_succ, List.all_append]; simp
theorem ordTo_no {ws : List Wk} {order : List Int} {k n : Nat} (h : ordI ws order k = false) (hk : k < n) : ordTo ws order n = false := by
  unfold ordTo
  rw [List.all_eq_false]
  exact ⟨k, List.mem_range.2 hk, by rw [h]; simp⟩
/-- labelled works -/
def labN (ws : List Wk) (a : Nat) : LW := ((a : Int), wAt ws a)
def labI (ws : List Wk) (b : Int) : LW := (b, wAt ws b.toNat)
theorem ord_reo_from {ws : List Wk} {order : List Int} (hok : ordTo ws order order.length = true) : ∀ (m i : Nat) (rem : List Nat), i + m = order.length → rem.length = m → rem.Pairwise (· < ·) → (∀ a, a ∈ rem ↔ a < ws.length ∧ (order.take i).contains (a : Int) = false) → Reo (rem.map (labN ws)) ((order.drop i).map (labI ws))
  | 0, i, rem, hi, hl, _, _ => by
    obtain rfl : rem = [] := List.length_eq_zero_iff.1 hl
    rw [List.drop_of_length_le (by omega)]
    exact Reo.nil
  | m + 1, i, rem, hi, hl, hs, hm => by
    obtain ⟨b, hb⟩ := get_of_lt (l := order) (k := i) (by omega)
    have hI : ordI ws order i = true := by
      unfold ordTo at hok
      exact List.all_eq_true.1 hok i (List.mem_range.2 (by omega))
    have hD : order.getD i 0 = b := by rw [List.getD_eq_getElem?_getD, hb]; rfl
    unfold ordI at hI
    rw [hD] at hI
    simp only [Bool.and_eq_true, decide_eq_true_eq, Bool.not_eq_true'] at hI
    obtain ⟨⟨⟨b0, bn⟩, bnew⟩, bbef⟩ := hI
    obtain ⟨c, rfl⟩ := Int.eq_ofNat_of_zero_le b0
    have hc : ((c : Nat) : Int).toNat = c := by simp
    rw [hc] at bbef
    have hmem : c ∈ rem := (hm c).2 ⟨by omega, bnew⟩
    obtain ⟨A, B, rfl⟩ := List.append_of_mem hmem
    have hdrop : order.drop i = (c : Int) :: order.drop (i + 1) := by
      rw [List.drop_eq_getElem_cons (by omega)]
      rw [List.getElem?_eq_getElem (by omega)] at hb
      injection hb with hb
      rw [hb]
    rw [hdrop, List.map_cons, List.map_append, List.map_cons]
    have hsA := List.pairwise_append.1 hs
    have e : labI ws (c : Int) = labN ws c := by unfold labI labN; rw [hc]
    rw [e]
    refine Reo.cons ?_ ?_
    · intro y hy
      obtain ⟨a, ha, rfl⟩ := List.mem_map.1 hy
      have hac : a < c := hsA.2.2 a ha c (by simp)
      have hnot := ((hm a).1 (by simp [ha])).2
      have h1 := List.all_eq_true.1 bbef a (List.mem_range.2 hac)
      rw [hnot] at h1
      have h2 : touchB (wAt ws a) (wAt ws c) = false := by simpa using h1
      unfold touchB at h2
      show (wAt ws a).at_ + 2 ≤ (wAt ws c).at_ ∨ (wAt ws c).at_ + 2 ≤ (wAt ws a).at_
      rcases Bool.and_eq_false_iff.1 h2 with h | h
      · have := of_decide_eq_false h; omega
      · have := of_decide_eq_false h; omega
    · rw [← List.map_append]
      have hsB := List.pairwise_cons.1 hsA.2.1
      refine ord_reo_from hok m (i + 1) (A ++ B) (by omega) (by simp at hl ⊢; omega) ?_ ?_
      · exact List.pairwise_append.2 ⟨hsA.1, hsB.2, fun a ha b hb => hsA.2.2 a ha b (by simp [hb])⟩
      · intro a
        have ht : (order.take (i + 1)).contains (a : Int) = ((order.take i).contains (a : Int) || ((a : Int) == (c : Int))) := by
          rw [List.take_add_one, hb, Bool.eq_iff_iff]; simp
        rw [ht]
        have h1 := hm a
        constructor
        · intro ha
          have hne : a ≠ c := by
            rcases List.mem_append.1 ha with ha | ha
            · have := hsA.2.2 a ha c (by simp); omega
            · have := hsB.1 a ha; omega
          have h2 := h1.1 (by rcases List.mem_append.1 ha with ha | ha <;> simp [ha])
          refine ⟨h2.1, ?_⟩
          rw [h2.2]
          simp; omega
        · rintro ⟨h2, h3⟩
          simp only [Bool.or_eq_false_iff, beq_eq_false_iff_ne, ne_eq] at h3
          have h4 := h1.2 ⟨h2, h3.1⟩
          rcases List.mem_append.1 h4 with h4 | h4
          · simp [h4]
          · rcases List.mem_cons.1 h4 with h4 | h4
            · exact absurd (by rw [h4]) h3.2
            · simp [h4]
theorem ord_reo {ws : List Wk} {order : List Int} (h : ordB ws order = true) : Reo ((List.range ws.length).map (labN ws)) (order.map (labI ws)) := by
  unfold ordB at h
  obtain ⟨h1, h2⟩ := (Bool.and_eq_true_iff).1 h
  have hl : order.length = ws.length := by simpa using h1
  have := ord_reo_from h2 order.length 0 (List.range ws.length) (by omega) (by simp [hl]) List.pairwise_lt_range (fun a => by simp)
  rwa [List.drop_zero] at this
/-! ### the cloths -/
def St0 : St := ⟨lineL 48, [], 0⟩
theorem gd0 : Gd St0.l := ⟨lineL_len 48, fun i j v h1 h2 => by
  have k1 := lt_of_get h1
  have k2 := lt_of_get h2
  have hl : St0.l.length = 48 := lineL_len 48
  rw [hl] at k1 k2
  have h1 : (lineL 48)[i]? = some v := h1
  have h2 : (lineL 48)[j]? = some v := h2
  rw [lineL_get k1] at h1
  rw [lineL_get k2] at h2
  injection h1 with h1; injection h2 with h2; omega⟩
theorem works_abs {ws : List Wk} : ∀ k, k ≤ ws.length → (Mk.works ws k).abs = St0.run (evs ((List.range k).map (labN ws)))
  | 0, _ => rfl
  | k + 1, hk => by
    obtain ⟨x, hx⟩ := get_of_lt (l := ws) (k := k) (by omega)
    rw [Mk.works_succ hx, Mk.abs_work, works_abs k (by omega), List.range_succ, List.map_append]
    have e : evs ((List.range k).map (labN ws) ++ [k].map (labN ws)) = evs ((List.range k).map (labN ws)) ++ evW (k : Int) x := by
      unfold evs; rw [List.flatMap_append]; simp [labN, wAt_get hx]
    rw [e, St.run_app]
/-! ### other numbers for the works -/
def relab (f : Int → Int) (x : Q4) : Q4 := { x with a := f x.a }
def evRe (f : Int → Int) : Ev → Ev
  | none => none
  | some (i, a, n) => some (f i, a, n)
def St.re (f : Int → Int) (s : St) : St := { s with xs := s.xs.map (relab f) }
theorem evX_re (f : Int → Int) (l : List Int) (i a : Int) (n : Bool) : evX l (f i) a n = relab f (evX l i a n) := by unfold evX relab; cases n <;> rfl
theorem step_re (f : Int → Int) (s : St) (e : Ev) : (s.re f).step (evRe f e) = (s.step e).re f := by
  cases e with
  | none => rfl
  | some q =>
    obtain ⟨i, a, n⟩ := q
    show St.mk (swapL s.l (evX s.l (f i) a n)) (s.xs.map (relab f) ++ [evX s.l (f i) a n]) s.np = St.mk (swapL s.l (evX s.l i a n)) ((s.xs ++ [evX s.l i a n]).map (relab f)) s.np
    rw [evX_re, List.map_append]
    rfl
theorem run_re (f : Int → Int) (es : List Ev) : ∀ s : St, (s.re f).run (es.map (evRe f)) = (s.run es).re f := by
  induction es with
  | nil => intro s; rfl
  | cons e es ih => intro s; show ((s.re f).step (evRe f e)).run (es.map (evRe f)) = _; rw [step_re, ih]; rfl
theorem evW_re (f : Int → Int) (i : Int) (x : Wk) : evW (f i) x = (evW i x).map (evRe f) := by
  have h1 : ∀ c, evL (f i) (mkMid x) c = (evL i (mkMid x) c).map (evRe f) := fun c => by
    unfold evL
    split
    · rfl
    · rw [List.map_map]; rfl
  unfold evW
  rw [List.map_append, List.map_flatMap]
  congr 1
  · split <;> rfl
  · congr 1
    funext c
    exact h1 c
theorem evs_re (f : Int → Int) (W : List LW) : evs (W.map (fun p => (f p.1, p.2))) = (evs W).map (evRe f) := by
  unfold evs
  rw [List.flatMap_map, List.map_flatMap]
  congr 1
  funext p
  exact evW_re f p.1 p.2
/-- the number of a work in a list of numbers -/
def labW (ids : List Int) (w : Int) : Int := if 0 ≤ w ∧ w < (ids.length : Int) then ids.getD w.toNat 0 else -1
def reW (ws : List Wk) (order : List Int) : List Wk := order.map (fun b => wAt ws b.toNat)
theorem labW_at {ids : List Int} {k : Nat} (h : k < ids.length) : labW ids (k : Int) = ids.getD k 0 := by
  unfold labW; rw [if_pos (by omega)]; simp
theorem map_range_getD {ids : List Int} : (List.range ids.length).map (fun k => ids.getD k 0) = ids := by
  apply List.ext_getElem?
  intro k
  by_cases h : k < ids.length
  · rw [List.getElem?_map, List.getElem?_range h, List.getElem?_eq_getElem h]
    simp [List.getD_eq_getElem?_getD, List.getElem?_eq_getElem h]
  · rw [List.getElem?_eq_none (by simpa using h), List.getElem?_eq_none (by omega)]
theorem any_alike {ws : List Wk} {order : List Int} (h : ordB ws order = true) (hw : ∀ x ∈ ws, 0 ≤ x.at_ ∧ x.at_ ≤ 22) : Alk (Mk.works ws ws.length).abs ((Mk.works (reW ws order) order.length).abs.re (labW order)) := by
  have hl : (reW ws order).length = order.length := by unfold reW; simp
  rw [works_abs _ (Nat.le_refl _), works_abs _ (Nat.le_of_eq hl.symm), ← run_re, ← evs_re]
  have e1 : (((List.range order.length).map (labN (reW ws order))).map (fun p => (labW order p.1, p.2))) = order.map (labI ws) := by
    conv => rhs; rw [← map_range_getD (ids := order)]
    rw [List.map_map, List.map_map]
    apply List.map_congr_left
    intro k hk
    have hk' := List.mem_range.1 hk
    show (labW order (k : Int), wAt (reW ws order) k) = labI ws (order.getD k 0)
    rw [labW_at hk']
    unfold labI
    have e : wAt (reW ws order) k = wAt ws (order.getD k 0).toNat := by
      refine wAt_get ?_
      unfold reW
      rw [List.getElem?_map, List.getElem?_eq_getElem hk']
      simp [List.getD_eq_getElem?_getD, List.getElem?_eq_getElem hk']
    rw [e]
  rw [e1]
  refine (ord_reo h).alike St0 gd0 ?_
  intro p hp
  obtain ⟨a, ha, rfl⟩ := List.mem_map.1 hp
  have ha' := List.mem_range.1 ha
  obtain ⟨x, hx⟩ := get_of_lt (l := ws) (k := a) ha'
  show 0 ≤ (wAt ws a).at_ ∧ (wAt ws a).at_ ≤ 22
  rw [wAt_get hx]
  exact hw x (mem_of_get hx)
/-! ### the numbers of the works in a made cloth -/
theorem Mk.crosses_lab (s : Mk) (i : Int) (mid : Nat) (ns : List Int) : ∀ k, ∀ x ∈ (s.crosses i mid ns k).xs, x ∈ s.xs ∨ x.a = i
  | 0, x, h => .inl h
  | k + 1, x, h => by
    unfold Mk.crosses at h
    split at h
    · rcases List.mem_append.1 (show x ∈ (s.crosses i mid ns k).xs ++ [_] from h) with h | h
      · exact Mk.crosses_lab s i mid ns k x h
      · right
        have e : x = mkX (s.crosses i mid ns k).l i mid ‹Int› := by simpa using h
        rw [e]; unfold mkX; split <;> rfl
    · exact Mk.crosses_lab s i mid ns k x h
theorem Mk.letters_lab (s : Mk) (i : Int) (mid : Nat) (bs : List UInt8) : ∀ k, ∀ x ∈ (s.letters i mid bs k).xs, x ∈ s.xs ∨ x.a = i
  | 0, x, h => .inl h
  | k + 1, x, h => by
    unfold Mk.letters at h
    split at h
    · unfold Mk.letter at h
      split at h
      · exact Mk.letters_lab s i mid bs k x h
      · rcases Mk.crosses_lab _ i mid _ _ x h with h | h
        · exact Mk.letters_lab s i mid bs k x h
        · exact .inr h
    · exact Mk.letters_lab s i mid bs k x h
theorem Mk.works_lab (ws : List Wk) : ∀ k, ∀ x ∈ (Mk.works ws k).xs, 0 ≤ x.a ∧ x.a < (k : Int)
  | 0, x, h => by simp [Mk.works] at h
  | k + 1, x, h => by
    have ih := Mk.works_lab ws k x
    unfold Mk.works at h
    split at h
    · unfold Mk.work at h
      rcases Mk.letters_lab _ _ _ _ _ x h with h | h
      · have h2 : x ∈ (Mk.works ws k).xs := by
          split at h
          · exact h
          · exact h
        have := ih h2; omega
      · rw [h]; omega
    · have := ih h; omega
theorem relab_own {ws : List Wk} {n : Nat} : ((Mk.works ws n).xs.map (relab (labW (lineL n)))) = (Mk.works ws n).xs := by
  conv => rhs; rw [← List.map_id (Mk.works ws n).xs]
  apply List.map_congr_left
  intro x hx
  obtain ⟨h0, h1⟩ := Mk.works_lab ws n x hx
  show relab (labW (lineL n)) x = x
  have e : labW (lineL n) x.a = x.a := by
    obtain ⟨a, ha⟩ := Int.eq_ofNat_of_zero_le h0
    rw [ha, labW_at (by rw [lineL_len]; omega), List.getD_eq_getElem?_getD, lineL_get (by omega)]; rfl
  unfold relab
  rw [e]
/-- both histories are one -/
theorem any_hist {ws : List Wk} {order : List Int} (h : ordB ws order = true) (hw : ∀ x ∈ ws, 0 ≤ x.at_ ∧ x.at_ ≤ 22) (th : Int) : hist th ((Mk.works ws ws.length).xs.map (relab (labW (lineL ws.length)))) = hist th ((Mk.works (reW ws order) order.length).xs.map (relab (labW order))) := by
  rw [relab_own]
  exact (any_alike h hw).h th
theorem hist_lab {xs : List Q4} (h : ∀ x ∈ xs, 0 ≤ x.a) (th : Int) : ∀ y ∈ hist th xs, 0 ≤ y.1 := fun y hy => by
  unfold hist at hy
  obtain ⟨x, hx, hy⟩ := List.mem_flatMap.1 hy
  have hx0 := h x hx
  rcases List.mem_append.1 hy with hy | hy
  · split at hy
    · obtain rfl : y = (x.a, x.d, true) := by simpa using hy
      exact hx0
    · simp at hy
  · split at hy
    · obtain rfl : y = (x.a, x.c, false) := by simpa using hy
      exact hx0
    · simp at hy
theorem reW_ok {p : Int} {ws : List Wk} {order : List Int} (hok : SOk p ws) (h : ordB ws order = true) : SOk p (reW ws order) := by
  unfold ordB at h
  obtain ⟨h1, h2⟩ := (Bool.and_eq_true_iff).1 h
  have hl : order.length = ws.length := by simpa using h1
  have hm : ∀ x ∈ reW ws order, x ∈ ws := fun x hx => by
    obtain ⟨b, hb, rfl⟩ := List.mem_map.1 hx
    obtain ⟨i, hi, rfl⟩ := List.mem_iff_getElem.1 hb
    have hI := List.all_eq_true.1 h2 i (List.mem_range.2 hi)
    unfold ordI at hI
    have hD : order.getD i 0 = order[i] := by rw [List.getD_eq_getElem?_getD, List.getElem?_eq_getElem hi]; rfl
    rw [hD] at hI
    simp only [Bool.and_eq_true, decide_eq_true_eq] at hI
    obtain ⟨x, hx⟩ := get_of_lt (l := ws) (k := (order[i]).toNat) (by omega)
    rw [wAt_get hx]
    exact mem_of_get hx
  exact ⟨hok.le, hok.ge, by unfold reW; rw [List.length_map, hl]; exact hok.len, fun x hx => hok.short x (hm x hx), fun x hx => hok.good x (hm x hx), fun x hx => hok.form x (hm x hx)⟩
end Go.Proofs.Ytpljaoagiaijiaa
/-
  Contracts of the functions of torchonref03 (words of moves) that look at letters.
-/
namespace Go.Proofs.Ytpljaoagiaijiaa
open Go.RowKit
set_option maxHeartbeats 400000 in
theorem index03 (s : ByteArray) (c : UInt8) (w : World) (hs : s.size ≤ 1000) :
    Calls Try.prog 63 #[.string s, .int .u8 c.toNat] w fun e w' => e = .returned (.int .i64 (idxOf s.data.toList c)) ∧ w = w' := by
  go_enter Try.func63, Try.ntmps63
  go_wp2
  go_loop [5] (fun i => ∃ k : Nat, k ≤ s.size ∧ i = .int .i64 k ∧ ∀ j, j < k → s.data.toList[j]? ≠ some c) (fun i => s.size - (intOf i).toNat)
  case atStart => exact ⟨0, Nat.zero_le _, rfl, fun j hj => absurd hj (by omega)⟩
  case round =>
    obtain ⟨k, hk, rfl, hno⟩ := hrel
    have H := Lib.hid hno; clear hno
    by_cases hlt : k < s.size
    · go_wp2
      · go_ret
        exact ⟨ret_int (idxOf_some (idx_split ((str_get s k hlt).trans (congrArg some (byte_eq (by assumption)))) H.out)).symm, rfl⟩
      · go_round
        case rel => exact ⟨k + 1, by omega, by go_num, fun j hj => by
          rcases Nat.lt_or_ge j k with h | h
          · exact H.out j h
          · obtain rfl : j = k := by omega
            rw [str_get s j hlt]
            intro he
            exact byte_ne (by assumption) (Option.some.inj he)⟩
        case measure => simp [intOf]; omega
    · go_wp2
      go_ret
      exact ⟨ret_int (idxOf_none (idx_none fun j hj => H.out j (by rw [str_len] at hj; omega))).symm, rfl⟩

theorem index03_let (c : UInt8) (w : World) :
    Calls Try.prog 63 #[.string ⟨#[67, 84, 76, 82, 80, 99, 116, 108, 114]⟩, .int .u8 c.toNat] w fun e w' => e = .returned (.int .i64 (idxOf letters c)) ∧ w = w' :=
  index03 ⟨#[67, 84, 76, 82, 80, 99, 116, 108, 114]⟩ c w (by decide)

set_option maxHeartbeats 400000 in
theorem check03 (s : ByteArray) (w : World) (hs : s.size ≤ 9223372036854775807) :
    Calls Try.prog 43 #[.string s] w fun e w' => e = .returned (.int .i64 (wchk s)) ∧ w = w' := by
  by_cases hl : 16 < s.size
  · go_enter Try.func43, Try.ntmps43
    go_wp2
    go_ret
    exact ⟨ret_int (wchk_long hl).symm, rfl⟩
  have hl' : s.size ≤ 16 := by omega
  go_enter Try.func43, Try.ntmps43
  go_wp2
  go_loop [3] (fun i => ∃ k : Nat, k ≤ s.size ∧ i = .int .i64 k ∧ ∀ j, ∀ hj : j < s.size, j < k → isLet s[j] = true) (fun i => s.size - (intOf i).toNat)
  case atStart => exact ⟨0, Nat.zero_le _, rfl, fun j _ hj => absurd hj (by omega)⟩
  case round =>
    obtain ⟨k, hk, rfl, hno⟩ := hrel
    have H := Lib.hid hno; clear hno
    by_cases hlt : k < s.size
    · by_cases hc : 0 ≤ idxOf letters s[k]
      · go_wp2_with (go_at_call 63; refine (index03_let _ _).mono ?_; rintro e w' ⟨rfl, rfl⟩)
        go_round
        case rel => exact ⟨k + 1, by omega, by go_num, fun j hs' hj => by
          rcases Nat.lt_or_ge j k with h | h
          · exact H.out j hs' h
          · obtain rfl : j = k := by omega
            exact (isLet_iff _).2 hc⟩
        case measure => simp [intOf]; omega
      · have hc' : idxOf letters s[k] < 0 := by omega
        go_wp2_with (go_at_call 63; refine (index03_let _ _).mono ?_; rintro e w' ⟨rfl, rfl⟩)
        go_ret
        exact ⟨ret_int (wchk_bad hl' (wOk_not hlt (idx_no hc'))).symm, rfl⟩
    · go_wp2
      go_ret
      exact ⟨ret_int (wchk_ok hl' (wOk_of fun j hj => H.out j hj (by omega))).symm, rfl⟩

end Go.Proofs.Ytpljaoagiaijiaa
/-
  Contracts of torchonref03: crossing, crossings, Crossings.
-/
namespace Go.Proofs.Ytpljaoagiaijiaa
open Go.RowKit
set_option maxRecDepth 100000 in
theorem cr67 (w : World) : Calls Try.prog 68 #[.int .u8 67] w (RetO [2] w) := by
  go_enter Try.func68, Try.ntmps68
  go_wp2
  go_ret
  exact ⟨some ⟨w.heap.size, 0, none⟩, 1, 1, rfl, World.ownsRow_lit w #[.int .i64 2] 1 (Nat.le_refl _) (by unfold maxLen; omega) rfl, rfl, by go_grown⟩
set_option maxRecDepth 100000 in
theorem cr84 (w : World) : Calls Try.prog 68 #[.int .u8 84] w (RetO [(-1), (-3)] w) := by
  go_enter Try.func68, Try.ntmps68
  go_wp2
  go_ret
  exact ⟨some ⟨w.heap.size, 0, none⟩, 2, 2, rfl, World.ownsRow_lit w #[.int .i64 (-1), .int .i64 (-3)] 2 (Nat.le_refl _) (by unfold maxLen; omega) rfl, rfl, by go_grown⟩
set_option maxRecDepth 100000 in
theorem cr76 (w : World) : Calls Try.prog 68 #[.int .u8 76] w (RetO [(-1)] w) := by
  go_enter Try.func68, Try.ntmps68
  go_wp2
  go_ret
  exact ⟨some ⟨w.heap.size, 0, none⟩, 1, 1, rfl, World.ownsRow_lit w #[.int .i64 (-1)] 1 (Nat.le_refl _) (by unfold maxLen; omega) rfl, rfl, by go_grown⟩
set_option maxRecDepth 100000 in
theorem cr82 (w : World) : Calls Try.prog 68 #[.int .u8 82] w (RetO [(-3)] w) := by
  go_enter Try.func68, Try.ntmps68
  go_wp2
  go_ret
  exact ⟨some ⟨w.heap.size, 0, none⟩, 1, 1, rfl, World.ownsRow_lit w #[.int .i64 (-3)] 1 (Nat.le_refl _) (by unfold maxLen; omega) rfl, rfl, by go_grown⟩
set_option maxRecDepth 100000 in
theorem cr80 (w : World) : Calls Try.prog 68 #[.int .u8 80] w (RetO [] w) := by
  go_enter Try.func68, Try.ntmps68
  go_wp2
  go_ret
  exact ⟨none, 0, 0, rfl, World.ownsRow_nil _ _ _ _, rfl, by go_grown⟩
set_option maxRecDepth 100000 in
theorem cr99 (w : World) : Calls Try.prog 68 #[.int .u8 99] w (RetO [(-2)] w) := by
  go_enter Try.func68, Try.ntmps68
  go_wp2
  go_ret
  exact ⟨some ⟨w.heap.size, 0, none⟩, 1, 1, rfl, World.ownsRow_lit w #[.int .i64 (-2)] 1 (Nat.le_refl _) (by unfold maxLen; omega) rfl, rfl, by go_grown⟩
set_option maxRecDepth 100000 in
theorem cr116 (w : World) : Calls Try.prog 68 #[.int .u8 116] w (RetO [1, 3] w) := by
  go_enter Try.func68, Try.ntmps68
  go_wp2
  go_ret
  exact ⟨some ⟨w.heap.size, 0, none⟩, 2, 2, rfl, World.ownsRow_lit w #[.int .i64 1, .int .i64 3] 2 (Nat.le_refl _) (by unfold maxLen; omega) rfl, rfl, by go_grown⟩
set_option maxRecDepth 100000 in
theorem cr108 (w : World) : Calls Try.prog 68 #[.int .u8 108] w (RetO [1] w) := by
  go_enter Try.func68, Try.ntmps68
  go_wp2
  go_ret
  exact ⟨some ⟨w.heap.size, 0, none⟩, 1, 1, rfl, World.ownsRow_lit w #[.int .i64 1] 1 (Nat.le_refl _) (by unfold maxLen; omega) rfl, rfl, by go_grown⟩
set_option maxRecDepth 100000 in
theorem cr114 (w : World) : Calls Try.prog 68 #[.int .u8 114] w (RetO [3] w) := by
  go_enter Try.func68, Try.ntmps68
  go_wp2
  go_ret
  exact ⟨some ⟨w.heap.size, 0, none⟩, 1, 1, rfl, World.ownsRow_lit w #[.int .i64 3] 1 (Nat.le_refl _) (by unfold maxLen; omega) rfl, rfl, by go_grown⟩
theorem crossing68 (c : UInt8) (h : isLet c = true) (w : World) : Calls Try.prog 68 #[.int .u8 c.toNat] w (RetO (crT (twV c) 3) w) := by
  rcases let_cases h with rfl | rfl | rfl | rfl | rfl | rfl | rfl | rfl | rfl
  · exact cr67 w
  · exact cr84 w
  · exact cr76 w
  · exact cr82 w
  · exact cr80 w
  · exact cr99 w
  · exact cr116 w
  · exact cr108 w
  · exact cr114 w
theorem crW_len3 (bs : List UInt8) : ∀ i, (crW bs i).length ≤ 3 * i
  | 0 => Nat.le_refl _
  | i + 1 => by
    have := crW_len3 bs i
    have h3 : ∀ v : List Int, (crT v 3).length ≤ 3 := fun v => by
      simp only [crT]
      repeat' split
      all_goals simp
    unfold crW
    split
    · have := h3 (twV ‹UInt8›)
      rw [List.length_append]; omega
    · omega
set_option maxRecDepth 100000 in
set_option maxHeartbeats 2000000 in
theorem crossings53 (s : ByteArray) (w : World) (hs : s.size ≤ 16) (hok : wOk s = true) :
    Calls Try.prog 53 #[.string s] w (RetO (crW s.data.toList s.size) w) := by
  have HOK : Hid (∀ (i : Nat) (hi : i < s.size), isLet s[i] = true ∧ s.data.toList[i]? = some s[i]) := fun i hi => by
    have h1 : s.data.toList[i]? = some s[i] := by
      rw [Array.getElem?_toList]
      exact Array.getElem?_eq_getElem hi
    exact ⟨(List.all_eq_true.1 hok) _ (mem_of_get h1), h1⟩
  clear hok
  go_enter Try.func53, Try.ntmps53
  go_wp2
  go_loopw [3, 4] (fun v i wr => ∃ (j l : Nat) (A' : Option Addr) (c' : Nat), j ≤ s.size ∧ l ≤ 3 * j ∧ i = .int .i64 (j : Int) ∧ v = .slice A' l c' ∧ Hid ((crW s.data.toList j).length = l) ∧ Hid (wr.ownsRow w.heap.size 3 1 v l ((crW s.data.toList j).map vInt)) ∧ Below w.heap.size w wr) (fun _ i _ => s.size - (intOf i).toNat)
  case atStart => exact ⟨0, 0, none, 0, Nat.zero_le _, Nat.le_refl _, rfl, rfl, Lib.hid rfl, Lib.hid (World.ownsRow_nil _ _ _ _), Below.refl _ _⟩
  case round =>
    obtain ⟨j, l, A', c', hj, hlj, rfl, rfl, HLL, HO, hb⟩ := hrel
    obtain ⟨wo, rfl⟩ : ∃ wo : World, wo = wr := ⟨_, rfl⟩
    have hz := hb.size
    by_cases hlt : j < s.size
    · obtain ⟨hlet, hget⟩ := HOK.out j hlt
      have T := Lib.hid (crossing68 s[j] hlet wo)
      have HS := Lib.hid (crW_succ hget)
      obtain ⟨V, hV⟩ : ∃ V, V = crT (twV s[j]) 3 := ⟨_, rfl⟩
      rw [← hV] at T HS
      clear hlet hget hV
      go_wp2_with fail
      refine T.out.mono ?_
      rintro e w2 ⟨A2, n2, c2, rfl, o2, l2, hb2⟩
      have HO2 := Lib.hid (own_below HO.out hb2)
      have HR2 := Lib.hid (own_rd1 o2)
      have B2 := hb.trans (hb2.mono hz)
      have hz2 := B2.size
      have hl3 : l + n2 ≤ 48 + 3 := by
        have h1 := crW_len3 s.data.toList (j + 1)
        rw [HS.out, List.length_append, HLL.out, l2] at h1
        omega
      have HL2 := Lib.hid l2
      have hl4 : l + n2 ≤ 3 * (j + 1) := by
        have h1 := crW_len3 s.data.toList (j + 1)
        rw [HS.out, List.length_append, HLL.out, l2] at h1
        omega
      clear hb2 T HO hb o2 l2
      go_wp2_with (first | (at_builtin; refine wpList_appI rfl (.tmp 11) (.tmp 15) rfl w.heap.size _ _ (crW s.data.toList j) rfl HO2.out A2 n2 c2 V rfl HR2.out HL2.out (by omega) (by omega) ?_; intro A3 c3 w3 hown3 hgrow3) | fail)
      have HO3 := Lib.hid hown3
      have B3 := B2.grown hgrow3 (by omega) (fun kk hk => (HO2.out.lt kk hk).1)
      clear hown3 hgrow3
      go_roundw
      case rel => exact ⟨j + 1, l + n2, A3, c3, by omega, hl4, by go_num, rfl, Lib.hid (by rw [HS.out, List.length_append, HLL.out, HL2.out]), Lib.hid (by rw [HS.out]; exact HO3.out), B3⟩
      case measure => first | (simp [intOf]; done) | (simp [intOf]; omega)
    · obtain rfl : s.size = j := by omega
      go_wp2
      go_ret
      exact ⟨A', l, c', rfl, HO.out, HLL.out, hb⟩
/-- a valid word: the own row, no error -/
theorem crossings42 (s : ByteArray) (w : World) (hs : s.size ≤ 16) (hok : wOk s = true) :
    Calls Try.prog 42 #[.string s] w fun e w' => ∃ A n c, e = .returned (.tuple #[.slice A n c, .int .i64 0]) ∧ w'.ownsRow w.heap.size 3 1 (.slice A n c) n ((crW s.data.toList s.size).map vInt) ∧ (crW s.data.toList s.size).length = n ∧ Below w.heap.size w w' := by
  have C1 := Lib.hid (check03 s w (by omega))
  rw [wchk_ok hs hok] at C1
  have C2 := Lib.hid (crossings53 s w hs hok)
  clear hok
  go_enter Try.func42, Try.ntmps42
  go_wp2_with fail
  refine C1.out.mono ?_
  rintro e w' ⟨rfl, rfl⟩
  go_wp2_with fail
  refine C2.out.mono ?_
  rintro e w2 ⟨A2, n2, c2, rfl, r2, l2, hb2⟩
  have HR := Lib.hid r2; clear r2
  go_wp2
  go_ret2
  exact ⟨A2, n2, c2, rfl, HR.out, l2, hb2⟩
set_option maxRecDepth 100000 in
set_option maxHeartbeats 1000000 in
theorem line41 (m : Nat) (w : World) (hm : m ≤ 48) : Calls Try.prog 41 #[.int .i64 (m : Int)] w (RetO (lineL m) w) := by
  go_enter Try.func41, Try.ntmps41
  go_wp2
  go_loopw [3, 4] (fun v i wr => ∃ (j : Nat) (A' : Option Addr) (c' : Nat), j ≤ m ∧ i = .int .i64 (j : Int) ∧ v = .slice A' j c' ∧ Hid (wr.ownsRow w.heap.size 3 1 v j ((lineL j).map vInt)) ∧ Below w.heap.size w wr) (fun _ i _ => m - (intOf i).toNat)
  case atStart => exact ⟨0, none, 0, Nat.zero_le _, rfl, rfl, Lib.hid (World.ownsRow_nil _ _ _ _), Below.refl _ _⟩
  case round =>
    obtain ⟨j, A', c', hj, rfl, rfl, HO, hb⟩ := hrel
    obtain ⟨wo, rfl⟩ : ∃ wo : World, wo = wr := ⟨_, rfl⟩
    have hz := hb.size
    by_cases hlt : j < m
    · have jm : (j : Int) < (m : Int) := by omega
      have HS : Hid (lineL (j + 1) = lineL j ++ [(j : Int)]) := by show lineL (j + 1) = _; simp [lineL, List.range_succ]
      go_wp2_with (first | (at_builtin; refine wpList_app rfl (.tmp 10) (.tmp 12) _ rfl w.heap.size 3 (.int .i64 0) 1 8 Try.underlying35 infoInt rfl (by omega) (by omega) _ _ _ rfl (HO.out.alloc _) wo.heap.size [vInt (j : Int)] rfl rfl (news_new _ _ _) (one_int _ _) (by omega) (by simp; omega) ?_; intro ga cap1 w7 hg1 hown1 hgrow1 hor1) | fail)
      go_roundw
      case rel => exact ⟨j + 1, some ⟨ga, 0, none⟩, cap1, by omega, by go_num, rfl, Lib.hid (by rw [HS.out, List.map_append]; exact hown1), (hb.alloc hz _).grown hgrow1 (by simp; omega) (fun kk hk => (HO.out.lt kk hk).1)⟩
      case measure => first | (simp [intOf]; done) | (simp [intOf]; omega)
    · obtain rfl : m = j := by omega
      have jm : ¬ (m : Int) < (m : Int) := by omega
      go_wp2
      go_ret
      exact ⟨A', m, c', rfl, HO.out, lineL_len _, hb⟩
end Go.Proofs.Ytpljaoagiaijiaa
