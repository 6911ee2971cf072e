/-
  Plain law of the quick instructions: the works that are not made, in queues by their places; a sweep with the hands at a place; the places with the most works.
-/
import Derived.Test.YtnjenggijmbhcaaVK5
import Derived.Test.YtnjenggijmbhcaaVK23
namespace Go.Proofs.Ytnjenggijmbhcaa
open Go.RowKit
/-- the works that are not made and take place q -/
def que (ws : List Wk) (D : Nat → Bool) (q : Nat) : List Nat := (List.range ws.length).filter fun i => !D i && takes (wat ws i) q
/-- the work that is ready at place q -/
def frt (ws : List Wk) (D : Nat → Bool) (q : Nat) : Option Nat :=
  match que ws D q, que ws D (q + 1) with
  | a :: _, b :: _ => if a = b then some a else none
  | _, _ => none
def mkD (D : Nat → Bool) (j : Nat) : Nat → Bool := fun i => D i || i == j
def rdyQ (ws : List Wk) (D : Nat → Bool) (i : Nat) : Prop := D i = false ∧ ∀ k, k < i → D k = false → touch (wat ws k) (wat ws i) = false
theorem takes_iff (a : Int) (q : Nat) : takes a q = true ↔ a = q ∨ a + 1 = q := by
  unfold takes
  rw [Bool.or_eq_true, beq_iff_eq, beq_iff_eq]
  omega
theorem touch_iff (a b : Int) : touch a b = true ↔ a - b ≤ 1 ∧ b - a ≤ 1 := by unfold touch; simp
theorem mem_que {ws : List Wk} {D : Nat → Bool} {q i : Nat} : i ∈ que ws D q ↔ i < ws.length ∧ D i = false ∧ takes (wat ws i) q = true := by
  unfold que; rw [List.mem_filter, List.mem_range]; simp
theorem que_sorted (ws : List Wk) (D : Nat → Bool) (q : Nat) : (que ws D q).Pairwise (· < ·) := (List.pairwise_lt_range).filter _
theorem que_nodup (ws : List Wk) (D : Nat → Bool) (q : Nat) : (que ws D q).Nodup := (List.nodup_range).filter _
theorem que_len (ws : List Wk) (D : Nat → Bool) (q : Nat) : (que ws D q).length ≤ ws.length := by
  have := List.length_filter_le (fun i => !D i && takes (wat ws i) q) (List.range ws.length)
  rwa [List.length_range] at this
theorem que_head {ws : List Wk} {D : Nat → Bool} {q i : Nat} {t : List Nat} (h : que ws D q = i :: t) : ∀ k, k < i → D k = false → takes (wat ws k) q = true → k < ws.length → False := fun k hk hd ht hl => by
  have hm : k ∈ que ws D q := mem_que.2 ⟨hl, hd, ht⟩
  have hs := que_sorted ws D q
  rw [h] at hm hs
  rcases List.mem_cons.1 hm with e | e
  · omega
  · have := (List.pairwise_cons.1 hs).1 k e; omega
theorem que_first {ws : List Wk} {D : Nat → Bool} {q i : Nat} (hi : i ∈ que ws D q) (h : ∀ k, k < i → k ∈ que ws D q → False) : ∃ t, que ws D q = i :: t := by
  have hs := que_sorted ws D q
  cases hq : que ws D q with
  | nil => rw [hq] at hi; cases hi
  | cons a t =>
    rw [hq] at hi hs
    rcases List.mem_cons.1 hi with e | e
    · exact ⟨t, by rw [e]⟩
    · have h1 := (List.pairwise_cons.1 hs).1 i e
      exact absurd (h a h1 (by rw [hq]; exact List.mem_cons_self)) (by simp)
theorem frt_cons {ws : List Wk} {D : Nat → Bool} {q i : Nat} (h : frt ws D q = some i) : ∃ t t', que ws D q = i :: t ∧ que ws D (q + 1) = i :: t' := by
  unfold frt at h
  cases h1 : que ws D q with
  | nil => rw [h1] at h; cases h
  | cons a t =>
    cases h2 : que ws D (q + 1) with
    | nil => rw [h1, h2] at h; cases h
    | cons b t' =>
      rw [h1, h2] at h
      simp only at h
      split at h
      · rename_i e; subst e; injection h with h; subst h; exact ⟨t, t', rfl, rfl⟩
      · cases h
theorem frt_iff {ws : List Wk} {D : Nat → Bool} {q i : Nat} : frt ws D q = some i ↔ i < ws.length ∧ wat ws i = q ∧ rdyQ ws D i := by
  constructor
  · intro h
    obtain ⟨t, t', h1, h2⟩ := frt_cons h
    have m1 := mem_que.1 (show i ∈ que ws D q by rw [h1]; exact List.mem_cons_self)
    have m2 := mem_que.1 (show i ∈ que ws D (q + 1) by rw [h2]; exact List.mem_cons_self)
    have t1 := (takes_iff _ _).1 m1.2.2
    have t2 := (takes_iff _ _).1 m2.2.2
    have hw : wat ws i = q := by omega
    refine ⟨m1.1, hw, m1.2.1, fun k hk hd => ?_⟩
    cases ht : touch (wat ws k) (wat ws i) with
    | false => rfl
    | true =>
      exfalso
      obtain ⟨x1, x2⟩ := (touch_iff _ _).1 ht
      rcases (show (wat ws k = q ∨ wat ws k + 1 = q) ∨ wat ws k = q + 1 by omega) with h | h
      · exact que_head h1 k hk hd ((takes_iff _ _).2 h) (by omega)
      · exact que_head h2 k hk hd ((takes_iff _ _).2 (by omega)) (by omega)
  · rintro ⟨hi, hw, hd, hr⟩
    have k1 : ∃ t, que ws D q = i :: t := que_first (mem_que.2 ⟨hi, hd, (takes_iff _ _).2 (by omega)⟩) fun k hk hm => by
      obtain ⟨_, h2, h3⟩ := mem_que.1 hm
      have h4 := hr k hk h2
      have h5 := (takes_iff _ _).1 h3
      have := (touch_iff (wat ws k) (wat ws i)).2 ⟨by omega, by omega⟩
      rw [h4] at this; cases this
    have k2 : ∃ t, que ws D (q + 1) = i :: t := que_first (mem_que.2 ⟨hi, hd, (takes_iff _ _).2 (by omega)⟩) fun k hk hm => by
      obtain ⟨_, h2, h3⟩ := mem_que.1 hm
      have h4 := hr k hk h2
      have h5 := (takes_iff _ _).1 h3
      have := (touch_iff (wat ws k) (wat ws i)).2 ⟨by omega, by omega⟩
      rw [h4] at this; cases this
    obtain ⟨t, h1⟩ := k1
    obtain ⟨t', h2⟩ := k2
    unfold frt; rw [h1, h2]; simp
theorem filter_ne_head {l : List Nat} {i : Nat} {p : Nat → Bool} {t : List Nat} (hn : l.Nodup) (h : l.filter p = i :: t) : l.filter (fun k => p k && !(k == i)) = t := by
  rw [show l.filter (fun k => p k && !(k == i)) = (l.filter p).filter (fun k => !(k == i)) by rw [List.filter_filter]; exact List.filter_congr fun k _ => Bool.and_comm _ _, h]
  have hn2 : (i :: t).Nodup := by rw [← h]; exact hn.filter _
  rw [List.filter_cons]
  simp only [beq_self_eq_true, Bool.not_true, Bool.false_eq_true, ↓reduceIte]
  rw [List.filter_eq_self]
  intro a ha
  have := (List.nodup_cons.1 hn2).1
  have : a ≠ i := fun e => this (e ▸ ha)
  simpa using this
theorem que_mk_far {ws : List Wk} {D : Nat → Bool} {i q : Nat} (h : takes (wat ws i) q = false) : que ws (mkD D i) q = que ws D q := by
  unfold que
  refine List.filter_congr fun k _ => ?_
  unfold mkD
  by_cases e : k = i
  · subst e; rw [h]; simp
  · have : (k == i) = false := by simpa using e
    rw [this]; simp
theorem que_mk {ws : List Wk} {D : Nat → Bool} {i q : Nat} {t : List Nat} (h : que ws D q = i :: t) : que ws (mkD D i) q = t := by
  have := filter_ne_head List.nodup_range (show (List.range ws.length).filter (fun i => !D i && takes (wat ws i) q) = i :: t from h)
  rw [← this]
  unfold que
  refine List.filter_congr fun k _ => ?_
  unfold mkD
  cases D k <;> cases takes (wat ws k) q <;> cases (k == i) <;> rfl
/-- how many works are not made -/
def und (ws : List Wk) (D : Nat → Bool) : Nat := ((List.range ws.length).filter fun i => !D i).length
theorem und_le (ws : List Wk) (D : Nat → Bool) : und ws D ≤ ws.length := by
  have := List.length_filter_le (fun i => !D i) (List.range ws.length)
  unfold und
  rwa [List.length_range] at this
theorem und_mk {ws : List Wk} {D : Nat → Bool} {i : Nat} (hi : i < ws.length) (h : D i = false) : und ws D = und ws (mkD D i) + 1 := by
  unfold und
  generalize ws.length = n at hi
  induction n with
  | zero => omega
  | succ n ih =>
    rw [List.range_succ, List.filter_append, List.filter_append, List.length_append, List.length_append]
    by_cases e : i = n
    · subst e
      have h1 : (List.range i).filter (fun k => !mkD D i k) = (List.range i).filter (fun k => !D k) := by
        refine List.filter_congr fun k hk => ?_
        unfold mkD
        rw [List.mem_range] at hk
        have : (k == i) = false := by simp; omega
        rw [this, Bool.or_false]
      rw [h1]
      simp [mkD, h]
    · have h2 : mkD D i n = D n := by unfold mkD; have : (n == i) = false := by simp; omega
                                      rw [this, Bool.or_false]
      rw [ih (by omega)]
      simp only [List.filter_cons, List.filter_nil, h2]
      omega
theorem und_pos {ws : List Wk} {D : Nat → Bool} (h : 0 < und ws D) : ∃ i, i < ws.length ∧ D i = false := by
  unfold und at h
  obtain ⟨i, hi⟩ := List.exists_mem_of_length_pos h
  rw [List.mem_filter, List.mem_range] at hi
  exact ⟨i, hi.1, by simpa using hi.2⟩
theorem und_zero {ws : List Wk} {D : Nat → Bool} (h : und ws D = 0) : ∀ i, i < ws.length → D i = true := fun i hi => by
  unfold und at h
  have := List.length_eq_zero_iff.1 h
  cases hd : D i with
  | true => rfl
  | false =>
    have hm : i ∈ (List.range ws.length).filter (fun i => !D i) := List.mem_filter.2 ⟨List.mem_range.2 hi, by rw [hd]; rfl⟩
    rw [this] at hm; cases hm
/-- the first work that is ready at one of m places from h on -/
def nxt (ws : List Wk) (D : Nat → Bool) : Nat → Nat → Option Nat
  | _, 0 => none
  | h, m + 1 => match frt ws D h with | some i => some i | none => nxt ws D (h + 1) m
theorem nxt_none {ws : List Wk} {D : Nat → Bool} : ∀ {m h : Nat}, nxt ws D h m = none ↔ ∀ q, h ≤ q → q < h + m → frt ws D q = none
  | 0, h => ⟨fun _ q h1 h2 => by omega, fun _ => rfl⟩
  | m + 1, h => by
    unfold nxt
    cases hf : frt ws D h with
    | some i => exact ⟨(fun e => by cases e), (fun e => by rw [e h (Nat.le_refl _) (by omega)] at hf; cases hf)⟩
    | none =>
      simp only
      rw [nxt_none]
      constructor
      · intro e q h1 h2
        rcases Nat.lt_or_ge h q with k | k
        · exact e q (by omega) (by omega)
        · rw [show q = h by omega]; exact hf
      · exact fun e q h1 h2 => e q (by omega) (by omega)
theorem nxt_skip {ws : List Wk} {D : Nat → Bool} : ∀ {k h m : Nat}, (∀ q, h ≤ q → q < h + k → frt ws D q = none) → nxt ws D h (k + m) = nxt ws D (h + k) m
  | 0, h, m, _ => by rw [Nat.zero_add, Nat.add_zero]
  | k + 1, h, m, e => by
    rw [show k + 1 + m = (k + m) + 1 by omega]
    conv => lhs; unfold nxt
    rw [e h (Nat.le_refl _) (by omega)]
    simp only
    rw [nxt_skip (k := k) (h := h + 1) (m := m) (fun q h1 h2 => e q (by omega) (by omega)), show h + 1 + k = h + (k + 1) by omega]
theorem nxt_some {ws : List Wk} {D : Nat → Bool} : ∀ {m h i : Nat}, nxt ws D h m = some i → ∃ q, h ≤ q ∧ q < h + m ∧ frt ws D q = some i ∧ ∀ q', h ≤ q' → q' < q → frt ws D q' = none
  | 0, h, i, e => by cases e
  | m + 1, h, i, e => by
    unfold nxt at e
    cases hf : frt ws D h with
    | some j =>
      rw [hf] at e
      injection e with e
      subst e
      exact ⟨h, Nat.le_refl _, by omega, hf, fun q' h1 h2 => by omega⟩
    | none =>
      rw [hf] at e
      simp only at e
      obtain ⟨q, h1, h2, h3, h4⟩ := nxt_some e
      refine ⟨q, by omega, by omega, h3, fun q' k1 k2 => ?_⟩
      rcases Nat.lt_or_ge h q' with k | k
      · exact h4 q' (by omega) k2
      · rw [show q' = h by omega]; exact hf
theorem nxt_at {ws : List Wk} {D : Nat → Bool} {h m p i : Nat} (h1 : ∀ q, h ≤ q → q < p → frt ws D q = none) (h2 : frt ws D p = some i) (h3 : p < h + m) (h4 : h ≤ p := by omega) : nxt ws D h m = some i := by
  obtain ⟨k, rfl⟩ : ∃ k, p = h + k := ⟨p - h, by omega⟩
  obtain ⟨j, rfl⟩ : ∃ j, m = k + (j + 1) := ⟨m - k - 1, by omega⟩
  rw [nxt_skip h1]
  unfold nxt
  rw [h2]
theorem frt_mk_far {ws : List Wk} {D : Nat → Bool} {i p q : Nat} (h : wat ws i = p) (hq : q + 1 < p) : frt ws (mkD D i) q = frt ws D q := by
  have f : ∀ q', q' < p → takes (wat ws i) q' = false := fun q' hq' => by
    cases ht : takes (wat ws i) q' with
    | false => rfl
    | true => have := (takes_iff _ _).1 ht; omega
  unfold frt
  rw [que_mk_far (f q (by omega)), que_mk_far (f (q + 1) hq)]
theorem frt_lt {ws : List Wk} {D : Nat → Bool} {q i : Nat} (h : frt ws D q = some i) : i < ws.length ∧ D i = false := ⟨(frt_iff.1 h).1, (frt_iff.1 h).2.2.1⟩
/-- what a sweep makes: with the hands at h, m places; in its order -/
def swp (ws : List Wk) (h m : Nat) : Nat → (Nat → Bool) → List Nat
  | 0, _ => []
  | f + 1, D => match nxt ws D h m with | none => [] | some i => i :: swp ws h m f (mkD D i)
def mkAll (D : Nat → Bool) (l : List Nat) : Nat → Bool := l.foldl mkD D
theorem mkAll_app (D : Nat → Bool) (l r : List Nat) : mkAll D (l ++ r) = mkAll (mkAll D l) r := List.foldl_append
theorem swp_none {ws : List Wk} {D : Nat → Bool} {h m f : Nat} (e : nxt ws D h m = none) : swp ws h m f D = [] := by
  cases f with
  | zero => rfl
  | succ f => unfold swp; rw [e]
theorem swp_some {ws : List Wk} {D : Nat → Bool} {h m f i : Nat} (e : nxt ws D h m = some i) : swp ws h m (f + 1) D = i :: swp ws h m f (mkD D i) := by
  conv => lhs; unfold swp
  rw [e]
theorem nxt_und {ws : List Wk} {D : Nat → Bool} {h m i : Nat} (e : nxt ws D h m = some i) : und ws D = und ws (mkD D i) + 1 := by
  obtain ⟨q, _, _, hf, _⟩ := nxt_some e
  obtain ⟨h1, h2⟩ := frt_lt hf
  exact und_mk h1 h2
theorem swp_fuel {ws : List Wk} {h m : Nat} : ∀ {f g : Nat} {D : Nat → Bool}, und ws D ≤ f → und ws D ≤ g → swp ws h m f D = swp ws h m g D
  | f, g, D, h1, h2 => by
    cases e : nxt ws D h m with
    | none => rw [swp_none e, swp_none e]
    | some i =>
      have hu := nxt_und e
      obtain ⟨f, rfl⟩ : ∃ f', f = f' + 1 := ⟨f - 1, by omega⟩
      obtain ⟨g, rfl⟩ : ∃ g', g = g' + 1 := ⟨g - 1, by omega⟩
      rw [swp_some e, swp_some e, swp_fuel (f := f) (g := g) (D := mkD D i) (by omega) (by omega)]
  termination_by f => f
/-- a sweep from what is made on -/
def sweep (ws : List Wk) (h m : Nat) (D : Nat → Bool) : List Nat := swp ws h m ws.length D
theorem sweep_none {ws : List Wk} {D : Nat → Bool} {h m : Nat} (e : nxt ws D h m = none) : sweep ws h m D = [] := swp_none e
theorem sweep_some {ws : List Wk} {D : Nat → Bool} {h m i : Nat} (e : nxt ws D h m = some i) : sweep ws h m D = i :: sweep ws h m (mkD D i) := by
  have hu := nxt_und e
  have hl := und_le ws D
  unfold sweep
  rw [swp_fuel (f := ws.length) (g := (ws.length - 1) + 1) (D := D) (by omega) (by omega), swp_some e]
  rw [swp_fuel (f := ws.length - 1) (g := ws.length) (D := mkD D i) (by omega) (by omega)]
theorem sweep_und {ws : List Wk} {h m : Nat} : ∀ (f : Nat) {D : Nat → Bool}, und ws D ≤ f → und ws D = und ws (mkAll D (sweep ws h m D)) + (sweep ws h m D).length
  | f, D, hf => by
    cases e : nxt ws D h m with
    | none => rw [sweep_none e]; rfl
    | some i =>
      have hu := nxt_und e
      obtain ⟨f, rfl⟩ : ∃ f', f = f' + 1 := ⟨f - 1, by omega⟩
      rw [sweep_some e]
      have := sweep_und (ws := ws) (h := h) (m := m) f (D := mkD D i) (by omega)
      show und ws D = und ws (mkAll (mkD D i) _) + _
      rw [List.length_cons]
      omega
  termination_by f => f
/-- how many works a sweep makes -/
def much (ws : List Wk) (m : Nat) (D : Nat → Bool) (h : Nat) : Nat := (sweep ws h m D).length
/-- the first of k places with the most works -/
def bstQ (ws : List Wk) (m : Nat) (D : Nat → Bool) : Nat → Nat
  | 0 => 0
  | k + 1 => if much ws m D (bstQ ws m D k) < much ws m D k then k else bstQ ws m D k
theorem bstQ_lt (ws : List Wk) (m : Nat) (D : Nat → Bool) : ∀ k, bstQ ws m D (k + 1) ≤ k
  | 0 => by unfold bstQ; split <;> simp [bstQ]
  | k + 1 => by
    have := bstQ_lt ws m D k
    rw [bstQ]
    split <;> omega
theorem bstQ_max (ws : List Wk) (m : Nat) (D : Nat → Bool) : ∀ k h, h < k → much ws m D h ≤ much ws m D (bstQ ws m D k)
  | 0, h, hk => by omega
  | k + 1, h, hk => by
    rw [bstQ]
    rcases Nat.lt_or_ge h k with e | e
    · have := bstQ_max ws m D k h e
      split <;> omega
    · obtain rfl : h = k := by omega
      split <;> omega
/-- something is made, if the hands may lie at k places and not all is made -/
theorem best_pos {ws : List Wk} {D : Nat → Bool} {k m : Nat} (hm : 1 ≤ m) (hk : 1 ≤ k) (hr : ∀ i, i < ws.length → 0 ≤ wat ws i ∧ wat ws i < (k : Int) - 1 + m) (hu : 0 < und ws D) : 0 < much ws m D (bstQ ws m D k) := by
  obtain ⟨j, hj, hd⟩ := und_pos hu
  obtain ⟨i, hi, hdi, hmin⟩ : ∃ i, i < ws.length ∧ D i = false ∧ ∀ k, k < i → D k = false → False := by
    induction j using Nat.strongRecOn with
    | _ j ih =>
      by_cases hx : ∃ k, k < j ∧ D k = false
      · obtain ⟨k, h1, h2⟩ := hx
        exact ih k h1 (by omega) h2
      · exact ⟨j, hj, hd, fun k h1 h2 => hx ⟨k, h1, h2⟩⟩
  obtain ⟨r1, r2⟩ := hr i hi
  obtain ⟨q, hq⟩ : ∃ q : Nat, wat ws i = q := ⟨(wat ws i).toNat, by omega⟩
  have hf : frt ws D q = some i := frt_iff.2 ⟨hi, hq, hdi, fun k h1 h2 => (hmin k h1 h2).elim⟩
  have hh : min q (k - 1) < k := by omega
  refine Nat.lt_of_lt_of_le ?_ (bstQ_max ws m D k (min q (k - 1)) hh)
  unfold much
  cases e : nxt ws D (min q (k - 1)) m with
  | none =>
    have := nxt_none.1 e q (by omega) (by omega)
    rw [hf] at this; cases this
  | some j => rw [sweep_some e, List.length_cons]; omega
/-- the quick instructions, from what is made on -/
def qkF (ws : List Wk) (k m : Nat) : Nat → (Nat → Bool) → List Wk
  | 0, _ => []
  | f + 1, D => if und ws D = 0 then [] else
      ⟨1, (bstQ ws m D k : Nat), ⟨#[]⟩⟩ :: ((sweep ws (bstQ ws m D k) m D).map fun i => match ws[i]? with | some x => stepOf x | none => ⟨0, 0, ⟨#[]⟩⟩) ++ qkF ws k m f (mkAll D (sweep ws (bstQ ws m D k) m D))
def stepsAt (ws : List Wk) (l : List Nat) : List Wk := l.map fun i => match ws[i]? with | some x => stepOf x | none => ⟨0, 0, ⟨#[]⟩⟩
theorem qkF_zero {ws : List Wk} {k m f : Nat} {D : Nat → Bool} (h : und ws D = 0) : qkF ws k m f D = [] := by
  cases f with
  | zero => rfl
  | succ f => unfold qkF; rw [if_pos h]
theorem qkF_succ {ws : List Wk} {k m f : Nat} {D : Nat → Bool} (h : und ws D ≠ 0) : qkF ws k m (f + 1) D = ⟨1, (bstQ ws m D k : Nat), ⟨#[]⟩⟩ :: stepsAt ws (sweep ws (bstQ ws m D k) m D) ++ qkF ws k m f (mkAll D (sweep ws (bstQ ws m D k) m D)) := by
  conv => lhs; unfold qkF
  rw [if_neg h]; rfl
def noneD : Nat → Bool := fun _ => false
theorem und_none (ws : List Wk) : und ws noneD = ws.length := by
  have h : (List.range ws.length).filter (fun i => !noneD i) = List.range ws.length := List.filter_eq_self.2 (fun _ _ => rfl)
  unfold und
  rw [h, List.length_range]
/-- the quick instructions of a sheet with p pairs for hands with span s -/
def quickP (p s : Nat) (ws : List Wk) : List Wk := qkF ws (p - s + 1) (s - 1) ws.length noneD
end Go.Proofs.Ytnjenggijmbhcaa
