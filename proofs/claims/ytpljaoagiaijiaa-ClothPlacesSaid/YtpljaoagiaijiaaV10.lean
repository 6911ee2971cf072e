/-
  Plain law of chapter 17: threads that hang together: joining by least threads, and handing on lesser numbers in rounds, lead to the same.
-/
import Derived.Test.YtpljaoagiaijiaaV9
namespace Go.Proofs.Ytpljaoagiaijiaa
open Go.RowKit
/-- the least thread that a thread hangs together with by the first k crossings -/
def repTo (xs : List Q4) : Nat → Nat → Nat
  | 0, n => n
  | k + 1, n => match xs[k]? with
    | some x => if repTo xs k n = max (repTo xs k x.c.toNat) (repTo xs k x.d.toNat) then min (repTo xs k x.c.toNat) (repTo xs k x.d.toNat) else repTo xs k n
    | none => repTo xs k n
theorem repTo_succ {xs : List Q4} {k : Nat} {x : Q4} (h : xs[k]? = some x) (n : Nat) : repTo xs (k + 1) n = if repTo xs k n = max (repTo xs k x.c.toNat) (repTo xs k x.d.toNat) then min (repTo xs k x.c.toNat) (repTo xs k x.d.toNat) else repTo xs k n := by
  show (match xs[k]? with | some x => if repTo xs k n = max (repTo xs k x.c.toNat) (repTo xs k x.d.toNat) then min (repTo xs k x.c.toNat) (repTo xs k x.d.toNat) else repTo xs k n | none => repTo xs k n) = _
  rw [h]
theorem repTo_le (xs : List Q4) : ∀ k n, repTo xs k n ≤ n
  | 0, n => Nat.le_refl n
  | k + 1, n => by
    cases h : xs[k]? with
    | none =>
      have e : repTo xs (k + 1) n = repTo xs k n := by
        show (match xs[k]? with | some x => _ | none => repTo xs k n) = _
        rw [h]
      rw [e]; exact repTo_le xs k n
    | some x =>
      rw [repTo_succ h]
      have := repTo_le xs k n
      split
      · omega
      · exact this
theorem repTo_rep (xs : List Q4) : ∀ k, k ≤ xs.length → ∀ n, repTo xs k (repTo xs k n) = repTo xs k n
  | 0, _, n => rfl
  | k + 1, hk, n => by
    obtain ⟨x, hx⟩ := get_of_lt (l := xs) (k := k) (by omega)
    have ih := repTo_rep xs k (by omega)
    have hc := ih x.c.toNat
    have hd := ih x.d.toNat
    have hn := ih n
    simp only [repTo_succ hx]
    generalize repTo xs k x.c.toNat = a at *
    generalize repTo xs k x.d.toNat = b at *
    by_cases h1 : repTo xs k n = max a b
    · rw [if_pos h1]
      have hm : repTo xs k (min a b) = min a b := by
        rcases Nat.le_total a b with h | h
        · rw [Nat.min_eq_left h]; exact hc
        · rw [Nat.min_eq_right h]; exact hd
      rw [hm]
      split
      · rfl
      · rfl
    · rw [if_neg h1, hn, if_neg h1]
/-- a crossing's two threads have the same -/
theorem repTo_both (xs : List Q4) : ∀ k, k ≤ xs.length → ∀ (j : Nat) (x : Q4), j < k → xs[j]? = some x → repTo xs k x.c.toNat = repTo xs k x.d.toNat
  | 0, _, j, x, hj, _ => absurd hj (by omega)
  | k + 1, hk, j, x, hj, hx => by
    obtain ⟨y, hy⟩ := get_of_lt (l := xs) (k := k) (by omega)
    simp only [repTo_succ hy]
    rcases Nat.lt_or_ge j k with h | h
    · rw [repTo_both xs k (by omega) j x h hx]
    · obtain rfl : j = k := by omega
      rw [hx] at hy
      obtain rfl := Option.some.inj hy
      generalize repTo xs j x.c.toNat = a
      generalize repTo xs j x.d.toNat = b
      rcases Nat.le_total a b with h | h
      · rw [Nat.max_eq_right h, Nat.min_eq_left h, if_pos rfl]
        split
        · rfl
        · rfl
      · rw [Nat.max_eq_left h, Nat.min_eq_right h, if_pos rfl]
        split
        · rfl
        · rfl
/-- what is alike for both threads of each crossing is alike for a thread and its least one -/
theorem repTo_alike {β : Type} (xs : List Q4) (f : Nat → β) : ∀ k, k ≤ xs.length → (∀ (j : Nat) (x : Q4), j < k → xs[j]? = some x → f x.c.toNat = f x.d.toNat) → ∀ n, f (repTo xs k n) = f n
  | 0, _, _, n => rfl
  | k + 1, hk, h, n => by
    obtain ⟨y, hy⟩ := get_of_lt (l := xs) (k := k) (by omega)
    have ih := repTo_alike xs f k (by omega) (fun j x hj hx => h j x (by omega) hx)
    rw [repTo_succ hy]
    split
    · rename_i h1
      have hc := ih y.c.toNat
      have hd := ih y.d.toNat
      have he := h k y (by omega) hy
      have hn := ih n
      rw [h1] at hn
      rw [← hn]
      generalize repTo xs k y.c.toNat = a at *
      generalize repTo xs k y.d.toNat = b at *
      rcases Nat.le_total a b with g | g
      · rw [Nat.min_eq_left g, Nat.max_eq_right g, hc, hd, he]
      · rw [Nat.min_eq_right g, Nat.max_eq_left g, hc, hd, he]
    · exact ih n
/-! ### handing on lesser numbers -/
def labS (l : List Int) (x : Q4) : List Int := (l.set x.c.toNat (min (l.getD x.c.toNat 0) (l.getD x.d.toNat 0))).set x.d.toNat (min (l.getD x.c.toNat 0) (l.getD x.d.toNat 0))
/-- the numbers behind the first k crossings of a round -/
def labR (xs : List Q4) (l : List Int) : Nat → List Int
  | 0 => l
  | k + 1 => match xs[k]? with
    | some x => labS (labR xs l k) x
    | none => labR xs l k
/-- the numbers behind so many rounds -/
def labN17 (xs : List Q4) (T : Nat) : Nat → List Int
  | 0 => lineL T
  | r + 1 => labR xs (labN17 xs T r) xs.length
theorem labR_succ {xs : List Q4} {l : List Int} {k : Nat} {x : Q4} (h : xs[k]? = some x) : labR xs l (k + 1) = labS (labR xs l k) x := by
  show (match xs[k]? with | some x => labS (labR xs l k) x | none => labR xs l k) = _
  rw [h]
/-- the numbers in the midst: each is that of a thread of the same set -/
structure LabOk (xs : List Q4) (T : Nat) (l : List Int) : Prop where
  len : l.length = T
  rng : ∀ i, i < T → ∃ v : Nat, l[i]? = some (v : Int) ∧ v ≤ i ∧ repTo xs xs.length v = repTo xs xs.length i
def thrOk (T : Nat) (x : Q4) : Prop := x.c.toNat < T ∧ x.d.toNat < T
def goodAt (xs : List Q4) (l : List Int) (i : Nat) : Prop := l[i]? = some ((repTo xs xs.length i : Nat) : Int)
theorem labS_get {l : List Int} {x : Q4} {c d : Nat} {a b : Int} (hc : x.c.toNat = c) (hd : x.d.toNat = d) (ha : l[c]? = some a) (hb : l[d]? = some b) (i : Nat) : (labS l x)[i]? = if i = c ∨ i = d then some (min a b) else l[i]? := by
  have h1 := lt_of_get ha
  have h2 := lt_of_get hb
  unfold labS
  rw [hc, hd, List.getD_eq_getElem?_getD, List.getD_eq_getElem?_getD, ha, hb]
  show ((l.set c (min a b)).set d (min a b))[i]? = _
  rw [List.getElem?_set, List.getElem?_set, List.length_set]
  by_cases e1 : i = d
  · subst e1; rw [if_pos rfl, if_pos h2, if_pos (.inr rfl)]
  · by_cases e2 : i = c
    · subst e2; rw [if_neg (by omega), if_pos rfl, if_pos h1, if_pos (.inl rfl)]
    · rw [if_neg (by omega), if_neg (by omega), if_neg (by omega)]
/-- a crossing keeps all this, keeps what is good, and makes both threads good if one is -/
theorem LabOk.step {xs : List Q4} {T : Nat} {l : List Int} (h : LabOk xs T l) {j : Nat} {x : Q4} (hx : xs[j]? = some x) (ht : thrOk T x) :
    LabOk xs T (labS l x) ∧ (∀ i, goodAt xs l i → goodAt xs (labS l x) i) ∧ (goodAt xs l x.c.toNat ∨ goodAt xs l x.d.toNat → goodAt xs (labS l x) x.c.toNat ∧ goodAt xs (labS l x) x.d.toNat) := by
  obtain ⟨hc, hd⟩ := ht
  obtain ⟨va, ha, la, ra⟩ := h.rng _ hc
  obtain ⟨vb, hb, lb, rb⟩ := h.rng _ hd
  have hboth := repTo_both xs xs.length (Nat.le_refl _) j x (lt_of_get hx) hx
  have hget := labS_get (l := l) (x := x) rfl rfl ha hb
  have hmin : min (va : Int) (vb : Int) = ((min va vb : Nat) : Int) := by omega
  have hrm : repTo xs xs.length (min va vb) = repTo xs xs.length x.c.toNat := by
    rcases Nat.le_total va vb with g | g
    · rw [Nat.min_eq_left g, ra]
    · rw [Nat.min_eq_right g, rb, hboth]
  have hle := repTo_le xs xs.length (min va vb)
  rw [hrm] at hle
  refine ⟨⟨by unfold labS; rw [List.length_set, List.length_set]; exact h.len, fun i hi => ?_⟩, fun i hg => ?_, fun hg => ?_⟩
  · rw [hget, hmin]
    by_cases e : i = x.c.toNat ∨ i = x.d.toNat
    · rw [if_pos e]
      refine ⟨min va vb, rfl, ?_, ?_⟩
      · rcases e with e | e <;> omega
      · rcases e with e | e
        · rw [hrm, e]
        · rw [hrm, e, hboth]
    · rw [if_neg e]; exact h.rng i hi
  · unfold goodAt at hg ⊢
    rw [hget, hmin]
    by_cases e : i = x.c.toNat ∨ i = x.d.toNat
    · rw [if_pos e]
      have hv : va = repTo xs xs.length x.c.toNat ∨ vb = repTo xs xs.length x.c.toNat := by
        rcases e with e | e
        · left; rw [e, ha] at hg; injection hg with hg; omega
        · right; rw [e, hb] at hg; injection hg with hg; rw [hboth]; omega
      have hr : repTo xs xs.length i = repTo xs xs.length x.c.toNat := by
        rcases e with e | e
        · rw [e]
        · rw [e, hboth]
      rw [hr]
      congr 2
      omega
    · rw [if_neg e]; exact hg
  · have hv : va = repTo xs xs.length x.c.toNat ∨ vb = repTo xs xs.length x.c.toNat := by
      rcases hg with hg | hg
      · left; unfold goodAt at hg; rw [ha] at hg; injection hg with hg; omega
      · right; unfold goodAt at hg; rw [hb] at hg; injection hg with hg; rw [hboth]; omega
    unfold goodAt
    rw [hget, hget, if_pos (.inl rfl), if_pos (.inr rfl), hmin, ← hboth]
    have e : min va vb = repTo xs xs.length x.c.toNat := by omega
    rw [e]
    exact ⟨rfl, rfl⟩
theorem LabOk.round {xs : List Q4} {T : Nat} {l : List Int} (h : LabOk xs T l) (ht : ∀ x ∈ xs, thrOk T x) : ∀ k, k ≤ xs.length → LabOk xs T (labR xs l k) ∧ (∀ i, goodAt xs l i → goodAt xs (labR xs l k) i) ∧
    (∀ (j : Nat) (x : Q4), j < k → xs[j]? = some x → (goodAt xs l x.c.toNat ∨ goodAt xs l x.d.toNat) → goodAt xs (labR xs l k) x.c.toNat ∧ goodAt xs (labR xs l k) x.d.toNat)
  | 0, _ => ⟨h, fun _ hg => hg, fun j _ hj => absurd hj (by omega)⟩
  | k + 1, hk => by
    obtain ⟨x, hx⟩ := get_of_lt (l := xs) (k := k) (by omega)
    obtain ⟨h1, h2, h3⟩ := LabOk.round h ht k (by omega)
    obtain ⟨s1, s2, s3⟩ := h1.step hx (ht x (mem_of_get hx))
    rw [labR_succ hx]
    refine ⟨s1, fun i hg => s2 i (h2 i hg), fun j y hj hy hg => ?_⟩
    rcases Nat.lt_or_ge j k with g | g
    · have := h3 j y g hy hg
      exact ⟨s2 _ this.1, s2 _ this.2⟩
    · obtain rfl : j = k := by omega
      rw [hx] at hy
      obtain rfl := Option.some.inj hy
      exact s3 (hg.elim (fun g => .inl (h2 _ g)) (fun g => .inr (h2 _ g)))
theorem countP_lt {α : Type} {l : List α} {p q : α → Bool} (h : ∀ x ∈ l, p x = true → q x = true) (he : ∃ x ∈ l, q x = true ∧ p x = false) : l.countP p < l.countP q := by
  induction l with
  | nil => obtain ⟨x, hx, _⟩ := he; simp at hx
  | cons a l ih =>
    have hle : l.countP p ≤ l.countP q := List.countP_mono_left (fun x hx => h x (by simp [hx]))
    obtain ⟨x, hx, hq, hp⟩ := he
    rw [List.countP_cons, List.countP_cons]
    rcases List.mem_cons.1 hx with rfl | hx
    · rw [hq, hp]; simp; omega
    · have := ih (fun y hy => h y (by simp [hy])) ⟨x, hx, hq, hp⟩
      have ha := h a (by simp)
      cases hpa : p a with
      | true => rw [ha hpa]; simp; omega
      | false => cases q a <;> simp <;> omega
def goodB (xs : List Q4) (l : List Int) (i : Nat) : Bool := l[i]? == some ((repTo xs xs.length i : Nat) : Int)
theorem goodB_iff {xs : List Q4} {l : List Int} {i : Nat} : goodB xs l i = true ↔ goodAt xs l i := by unfold goodB goodAt; simp
/-- a round makes one more good, if not all are -/
theorem round_more {xs : List Q4} {T : Nat} {l : List Int} (h : LabOk xs T l) (ht : ∀ x ∈ xs, thrOk T x) (hb : (List.range T).countP (goodB xs l) < T) : (List.range T).countP (goodB xs l) < (List.range T).countP (goodB xs (labR xs l xs.length)) := by
  obtain ⟨_, h2, h3⟩ := h.round ht xs.length (Nat.le_refl _)
  refine countP_lt (fun i _ hg => goodB_iff.2 (h2 i (goodB_iff.1 hg))) ?_
  have hex : ∃ i, i < T ∧ goodB xs l i = false := by
    refine Classical.byContradiction fun hno => ?_
    have hall : (List.range T).countP (goodB xs l) = (List.range T).length := List.countP_eq_length.2 (fun i hi => by
      cases hg : goodB xs l i with
      | true => rfl
      | false => exact absurd ⟨i, List.mem_range.1 hi, hg⟩ hno)
    rw [List.length_range] at hall
    omega
  obtain ⟨i, hi, hbad⟩ := hex
  have hdiff : ∃ (j : Nat) (x : Q4), xs[j]? = some x ∧ goodB xs l x.c.toNat ≠ goodB xs l x.d.toNat := by
    refine Classical.byContradiction fun hno => ?_
    have hal := repTo_alike xs (goodB xs l) xs.length (Nat.le_refl _) (fun j x hj hx => Classical.byContradiction fun hne => hno ⟨j, x, hx, hne⟩) i
    have hrep := repTo_rep xs xs.length (Nat.le_refl _) i
    have hle := repTo_le xs xs.length i
    obtain ⟨v, hv, hv1, hv2⟩ := h.rng (repTo xs xs.length i) (by omega)
    have hvr := repTo_le xs xs.length v
    rw [hv2, hrep] at hvr
    have hgood : goodB xs l (repTo xs xs.length i) = true := by
      rw [goodB_iff]
      unfold goodAt
      rw [hv, hrep]
      congr 2
      omega
    rw [hgood, hbad] at hal
    cases hal
  obtain ⟨j, x, hx, hne⟩ := hdiff
  have hj := lt_of_get hx
  obtain ⟨tc, td⟩ := ht x (mem_of_get hx)
  cases hgc : goodB xs l x.c.toNat with
  | true =>
    have hgd : goodB xs l x.d.toNat = false := by
      cases hh : goodB xs l x.d.toNat with
      | true => rw [hgc, hh] at hne; exact absurd rfl hne
      | false => rfl
    exact ⟨x.d.toNat, List.mem_range.2 td, goodB_iff.2 (h3 j x hj hx (.inl (goodB_iff.1 hgc))).2, hgd⟩
  | false =>
    have hgd : goodB xs l x.d.toNat = true := by
      cases hh : goodB xs l x.d.toNat with
      | true => rfl
      | false => rw [hgc, hh] at hne; exact absurd rfl hne
    exact ⟨x.c.toNat, List.mem_range.2 tc, goodB_iff.2 (h3 j x hj hx (.inr (goodB_iff.1 hgd))).1, hgc⟩
theorem lab_start (xs : List Q4) (T : Nat) : LabOk xs T (lineL T) := ⟨lineL_len T, fun i hi => ⟨i, lineL_get hi, Nat.le_refl _, rfl⟩⟩
theorem lab_rounds {xs : List Q4} {T : Nat} (ht : ∀ x ∈ xs, thrOk T x) : ∀ r, LabOk xs T (labN17 xs T r) ∧ (r ≤ (List.range T).countP (goodB xs (labN17 xs T r)) ∨ T ≤ (List.range T).countP (goodB xs (labN17 xs T r)))
  | 0 => ⟨lab_start xs T, .inl (Nat.zero_le _)⟩
  | r + 1 => by
    obtain ⟨h1, h2⟩ := lab_rounds ht r
    refine ⟨(h1.round ht xs.length (Nat.le_refl _)).1, ?_⟩
    show r + 1 ≤ (List.range T).countP (goodB xs (labR xs (labN17 xs T r) xs.length)) ∨ T ≤ (List.range T).countP (goodB xs (labR xs (labN17 xs T r) xs.length))
    rcases Nat.lt_or_ge ((List.range T).countP (goodB xs (labN17 xs T r))) T with g | g
    · have := round_more h1 ht g
      rcases h2 with h2 | h2
      · left; omega
      · omega
    · right
      refine Nat.le_trans g (List.countP_mono_left (fun i _ hg => ?_))
      exact goodB_iff.2 ((h1.round ht xs.length (Nat.le_refl _)).2.1 i (goodB_iff.1 hg))
/-- behind as many rounds as there are threads each has the number of its least one -/
theorem lab_all {xs : List Q4} {T : Nat} (ht : ∀ x ∈ xs, thrOk T x) (i : Nat) (hi : i < T) : (labN17 xs T T)[i]? = some ((repTo xs xs.length i : Nat) : Int) := by
  obtain ⟨_, h⟩ := lab_rounds ht T
  have hge : T ≤ (List.range T).countP (goodB xs (labN17 xs T T)) := by rcases h with h | h <;> exact h
  have hle : (List.range T).countP (goodB xs (labN17 xs T T)) ≤ (List.range T).length := List.countP_le_length
  rw [List.length_range] at hle
  have hall := List.countP_eq_length.1 (show (List.range T).countP (goodB xs (labN17 xs T T)) = (List.range T).length by rw [List.length_range]; omega)
  exact goodB_iff.1 (hall i (List.mem_range.2 hi))
/-- the sets, by their least threads -/
def setsR (xs : List Q4) (T : Nat) : List (List Int) := ((List.range T).map (fun k => ((List.range T).filter (fun i => repTo xs xs.length i == k)).map (fun (i : Nat) => (i : Int)))).filter (fun l => !l.isEmpty)
/-! ### joining: a thread's parent is never greater -/
def rtF (s : List Int) : Nat → Nat → Nat
  | 0, n => n
  | f + 1, n => if s.getD n 0 = (n : Int) then n else rtF s f (s.getD n 0).toNat
def rt (s : List Int) (n : Nat) : Nat := rtF s n n
/-- each parent is a thread that is not greater -/
def PInv (T : Nat) (s : List Int) : Prop := ∀ i, i < T → ∃ v : Nat, s[i]? = some (v : Int) ∧ v ≤ i
theorem rtF_more {T : Nat} {s : List Int} (h : PInv T s) : ∀ n, n < T → ∀ f, n ≤ f → rtF s f n = rtF s n n := by
  intro n
  induction n using Nat.strongRecOn with
  | _ n ih =>
    intro hn f hf
    obtain ⟨v, hv, hle⟩ := h n hn
    have hD : s.getD n 0 = (v : Int) := by rw [List.getD_eq_getElem?_getD, hv]; rfl
    cases n with
    | zero =>
      obtain rfl : v = 0 := by omega
      cases f with
      | zero => rfl
      | succ f => show (if s.getD 0 0 = ((0 : Nat) : Int) then 0 else _) = 0; rw [if_pos hD]
    | succ m =>
      obtain ⟨g, rfl⟩ : ∃ g, f = g + 1 := ⟨f - 1, by omega⟩
      show (if s.getD (m + 1) 0 = ((m + 1 : Nat) : Int) then m + 1 else rtF s g (s.getD (m + 1) 0).toNat) = (if s.getD (m + 1) 0 = ((m + 1 : Nat) : Int) then m + 1 else rtF s m (s.getD (m + 1) 0).toNat)
      by_cases e : s.getD (m + 1) 0 = ((m + 1 : Nat) : Int)
      · rw [if_pos e, if_pos e]
      · rw [if_neg e, if_neg e, hD]
        have hvn : ((v : Nat) : Int).toNat = v := by simp
        rw [hvn]
        have hlt : v < m + 1 := by rw [hD] at e; omega
        rw [ih v hlt (by omega) g (by omega), ih v hlt (by omega) m (by omega)]
/-- a root, or the root of the parent -/
theorem rt_step {T : Nat} {s : List Int} (h : PInv T s) {n v : Nat} (hn : n < T) (hv : s[n]? = some (v : Int)) : rt s n = if v = n then n else rt s v := by
  have hD : s.getD n 0 = (v : Int) := by rw [List.getD_eq_getElem?_getD, hv]; rfl
  obtain ⟨v', hv', hle⟩ := h n hn
  obtain rfl : v = v' := by rw [hv] at hv'; injection hv' with hv'; omega
  unfold rt
  cases n with
  | zero => obtain rfl : v = 0 := by omega
            rw [if_pos rfl]; rfl
  | succ m =>
    show (if s.getD (m + 1) 0 = ((m + 1 : Nat) : Int) then m + 1 else rtF s m (s.getD (m + 1) 0).toNat) = _
    by_cases e : v = m + 1
    · rw [if_pos (by rw [hD, e]), if_pos e]
    · rw [if_neg (by rw [hD]; omega), if_neg e, hD]
      have hvn : ((v : Nat) : Int).toNat = v := by simp
      rw [hvn]
      exact rtF_more h v (by omega) m (by omega)
theorem rt_root {T : Nat} {s : List Int} (h : PInv T s) : ∀ n, n < T → rt s n ≤ n ∧ s[rt s n]? = some ((rt s n : Nat) : Int) := by
  intro n
  induction n using Nat.strongRecOn with
  | _ n ih =>
    intro hn
    obtain ⟨v, hv, hle⟩ := h n hn
    rw [rt_step h hn hv]
    by_cases e : v = n
    · rw [if_pos e]; exact ⟨Nat.le_refl _, by rw [hv, e]⟩
    · rw [if_neg e]
      obtain ⟨h1, h2⟩ := ih v (by omega) (by omega)
      exact ⟨by omega, h2⟩
/-- one root is put below another one that is not greater -/
theorem rt_join {T : Nat} {s : List Int} (h : PInv T s) {a b : Nat} (hb : b < T) (hab : a ≤ b) (ra : s[a]? = some (a : Int)) (rb : s[b]? = some (b : Int)) : PInv T (s.set b (a : Int)) ∧ ∀ n, n < T → rt (s.set b (a : Int)) n = if rt s n = b then a else rt s n := by
  have hbl := lt_of_get rb
  have hP : PInv T (s.set b (a : Int)) := fun i hi => by
    rw [List.getElem?_set]
    by_cases e : b = i
    · subst e; rw [if_pos rfl, if_pos hbl]; exact ⟨a, rfl, hab⟩
    · rw [if_neg e]; exact h i hi
  refine ⟨hP, ?_⟩
  intro n
  induction n using Nat.strongRecOn with
  | _ n ih =>
    intro hn
    obtain ⟨v, hv, hle⟩ := h n hn
    by_cases e : n = b
    · subst e
      obtain rfl : v = n := by rw [hv] at rb; injection rb with rb; omega
      have hs : (s.set v (a : Int))[v]? = some (a : Int) := by rw [List.getElem?_set, if_pos rfl, if_pos hbl]
      have hrn : rt s v = v := by rw [rt_step h hn hv, if_pos rfl]
      rw [rt_step hP hn hs, hrn, if_pos rfl]
      by_cases e2 : a = v
      · rw [if_pos e2, e2]
      · rw [if_neg e2]
        have ha : (s.set v (a : Int))[a]? = some (a : Int) := by rw [List.getElem?_set, if_neg (Ne.symm e2)]; exact ra
        rw [rt_step hP (by omega) ha, if_pos rfl]
    · have hs : (s.set b (a : Int))[n]? = some (v : Int) := by rw [List.getElem?_set, if_neg (Ne.symm e)]; exact hv
      rw [rt_step hP hn hs, rt_step h hn hv]
      by_cases e2 : v = n
      · rw [if_pos e2, if_pos e2, if_neg e]
      · rw [if_neg e2, if_neg e2]
        exact ih v (by omega) (by omega)
/-- what the program's joining keeps: its roots are the least threads -/
def JoinOk (xs : List Q4) (T k : Nat) (s : List Int) : Prop := PInv T s ∧ s.length = 48 ∧ ∀ n, n < T → rt s n = repTo xs k n
theorem join_start (xs : List Q4) {T : Nat} (hT : T ≤ 48) : JoinOk xs T 0 (lineL 48) := by
  have hP : PInv T (lineL 48) := fun i hi => ⟨i, lineL_get (by omega), Nat.le_refl _⟩
  refine ⟨hP, lineL_len 48, fun n hn => ?_⟩
  rw [rt_step hP hn (lineL_get (by omega)), if_pos rfl]
  rfl
theorem join_next {xs : List Q4} {T k : Nat} {s : List Int} (h : JoinOk xs T k s) {x : Q4} (hx : xs[k]? = some x) (ht : thrOk T x) :
    JoinOk xs T (k + 1) (s.set (max (repTo xs k x.c.toNat) (repTo xs k x.d.toNat)) ((min (repTo xs k x.c.toNat) (repTo xs k x.d.toNat) : Nat) : Int)) := by
  obtain ⟨h1, h2, h3⟩ := h
  obtain ⟨rc1, rc2⟩ := rt_root h1 x.c.toNat ht.1
  obtain ⟨rd1, rd2⟩ := rt_root h1 x.d.toNat ht.2
  rw [h3 _ ht.1] at rc1 rc2
  rw [h3 _ ht.2] at rd1 rd2
  have tc := ht.1
  have td := ht.2
  have hmx : s[max (repTo xs k x.c.toNat) (repTo xs k x.d.toNat)]? = some ((max (repTo xs k x.c.toNat) (repTo xs k x.d.toNat) : Nat) : Int) := by
    rcases Nat.le_total (repTo xs k x.c.toNat) (repTo xs k x.d.toNat) with g | g
    · rw [Nat.max_eq_right g]; exact rd2
    · rw [Nat.max_eq_left g]; exact rc2
  have hmn : s[min (repTo xs k x.c.toNat) (repTo xs k x.d.toNat)]? = some ((min (repTo xs k x.c.toNat) (repTo xs k x.d.toNat) : Nat) : Int) := by
    rcases Nat.le_total (repTo xs k x.c.toNat) (repTo xs k x.d.toNat) with g | g
    · rw [Nat.min_eq_left g]; exact rc2
    · rw [Nat.min_eq_right g]; exact rd2
  obtain ⟨j1, j2⟩ := rt_join h1 (a := min (repTo xs k x.c.toNat) (repTo xs k x.d.toNat)) (b := max (repTo xs k x.c.toNat) (repTo xs k x.d.toNat)) (by omega) (by omega) hmn hmx
  refine ⟨j1, by rw [List.length_set]; exact h2, fun n hn => ?_⟩
  rw [j2 n hn, h3 n hn, repTo_succ hx]
end Go.Proofs.Ytpljaoagiaijiaa
