/-
  Plain law: a cloth that is made is valid; its line is that of its crossings; two threads have exchanged their order exactly if they meet an odd number of times.
-/
import Derived.Test.YtpljaoagiaijiaaMki
namespace Go.Proofs.Ytpljaoagiaijiaa
open Go.RowKit
/-- what holds at the start, and is kept by pins and crossings within T places, holds of what a sheet makes -/
theorem Mk.crosses_ind {T : Nat} {Q : Mk → Prop} (hc : ∀ s i mid n t, 0 ≤ i → mkAt mid n = ((t : Nat) : Int) → t + 1 < T → Q s → Q (s.cross i mid n)) {s : Mk} {i : Int} {mid : Nat} (hi : 0 ≤ i) (h1 : 1 ≤ mid) (h2 : mid + 2 < T) {ns : List Int} (hn : ∀ n ∈ ns, n ≠ 0 ∧ -3 ≤ n ∧ n ≤ 3) (hq : Q s) : ∀ k, Q (s.crosses i mid ns k)
  | 0 => hq
  | k + 1 => by
    have ih := Mk.crosses_ind hc hi h1 h2 hn hq k
    unfold Mk.crosses
    split
    · rename_i n hx
      obtain ⟨n0, n1, n2⟩ := hn n (mem_of_get hx)
      obtain ⟨t, ht⟩ : ∃ t : Nat, mkAt mid n = (t : Int) := Int.eq_ofNat_of_zero_le (by unfold mkAt; split <;> omega)
      exact hc _ i mid n t hi ht (by unfold mkAt at ht; split at ht <;> omega) ih
    · exact ih
theorem Mk.letters_ind {T : Nat} {Q : Mk → Prop} (hp : ∀ s i mid, 0 ≤ i → mid + 1 < T → Q s → Q (s.pin i mid)) (hc : ∀ s i mid n t, 0 ≤ i → mkAt mid n = ((t : Nat) : Int) → t + 1 < T → Q s → Q (s.cross i mid n)) {s : Mk} {i : Int} {mid : Nat} (hi : 0 ≤ i) (h1 : 1 ≤ mid) (h2 : mid + 2 < T) {bs : List UInt8} (hq : Q s) : ∀ k, Q (s.letters i mid bs k)
  | 0 => hq
  | k + 1 => by
    have ih := Mk.letters_ind hp hc hi h1 h2 (bs := bs) hq k
    unfold Mk.letters
    split
    · rename_i c hx
      unfold Mk.letter
      split
      · exact hp _ i mid hi (by omega) ih
      · exact Mk.crosses_ind hc hi h1 h2 (crL_mem c) ih _
    · exact ih
theorem Mk.works_ind {p : Int} {ws : List Wk} (hok : SOk p ws) {Q : Mk → Prop} (hp : ∀ s i mid, 0 ≤ i → mid + 1 < (2 * p).toNat → Q s → Q (s.pin i mid)) (hc : ∀ s i mid n t, 0 ≤ i → mkAt mid n = ((t : Nat) : Int) → t + 1 < (2 * p).toNat → Q s → Q (s.cross i mid n)) (h0 : Q ⟨lineL 48, [], []⟩) : ∀ k, Q (Mk.works ws k)
  | 0 => h0
  | k + 1 => by
    have ih := Mk.works_ind hok hp hc h0 k
    unfold Mk.works
    split
    · rename_i x hx
      obtain ⟨_, a0, a1, _⟩ := bad_at (hok.good x (mem_of_get hx))
      have h1 : 1 ≤ mkMid x := by unfold mkMid; omega
      have h2 : mkMid x + 2 < (2 * p).toNat := by unfold mkMid; omega
      unfold Mk.work
      refine Mk.letters_ind hp hc (Int.natCast_nonneg k) h1 h2 ?_ _
      split
      · exact hp _ _ _ (Int.natCast_nonneg k) (by omega) ih
      · exact ih
    · exact ih
/-- two neighbours exchanged -/
def tr (t i : Nat) : Nat := if i = t then t + 1 else if i = t + 1 then t else i
theorem set2_get {l : List Int} {t : Nat} {a b : Int} (ha : l[t]? = some a) (hb : l[t + 1]? = some b) (i : Nat) : ((l.set t b).set (t + 1) a)[i]? = l[tr t i]? := by
  have h1 := lt_of_get ha
  have h2 := lt_of_get hb
  unfold tr
  rw [List.getElem?_set, List.getElem?_set, List.length_set]
  by_cases e1 : i = t
  · subst e1; rw [if_neg (by omega), if_pos rfl, if_pos h1, if_pos rfl, hb]
  · by_cases e2 : i = t + 1
    · subst e2; rw [if_pos rfl, if_pos h2, if_neg e1, if_pos rfl, ha]
    · rw [if_neg (by omega), if_neg (by omega), if_neg e1, if_neg e2]
theorem tr_a (t : Nat) : tr t t = t + 1 := by unfold tr; rw [if_pos rfl]
theorem tr_b (t : Nat) : tr t (t + 1) = t := by unfold tr; rw [if_neg (by omega), if_pos rfl]
theorem tr_c {t i : Nat} (h1 : i ≠ t) (h2 : i ≠ t + 1) : tr t i = i := by unfold tr; rw [if_neg h1, if_neg h2]
theorem tr_cases (t i : Nat) : (i = t ∧ tr t i = t + 1) ∨ (i = t + 1 ∧ tr t i = t) ∨ (i ≠ t ∧ i ≠ t + 1 ∧ tr t i = i) := by
  by_cases h1 : i = t
  · subst h1; exact .inl ⟨rfl, tr_a _⟩
  · by_cases h2 : i = t + 1
    · subst h2; exact .inr (.inl ⟨rfl, tr_b _⟩)
    · exact .inr (.inr ⟨h1, h2, tr_c h1 h2⟩)
theorem tr_tr (t i : Nat) : tr t (tr t i) = i := by
  rcases tr_cases t i with ⟨h, e⟩ | ⟨h, e⟩ | ⟨h1, h2, e⟩
  · rw [e, tr_b, h]
  · rw [e, tr_a, h]
  · rw [e, e]
theorem tr_lt {t i T : Nat} (ht : t + 1 < T) (hi : i < T) : tr t i < T := by
  rcases tr_cases t i with ⟨h, e⟩ | ⟨h, e⟩ | ⟨h1, h2, e⟩ <;> omega
theorem endsTo_app (xs : List Q4) (x : Q4) (L : List Int) : ∀ k, k ≤ xs.length → endsTo (xs ++ [x]) L k = endsTo xs L k
  | 0, _ => rfl
  | k + 1, hk => by
    show (endsTo (xs ++ [x]) L k).bind _ = (endsTo xs L k).bind _
    rw [endsTo_app xs x L k (by omega), List.getElem?_append_left (by omega)]
theorem lineTo_app (xs : List Q4) (x : Q4) (L : List Int) : ∀ k, k ≤ xs.length → lineTo (xs ++ [x]) L k = lineTo xs L k
  | 0, _ => rfl
  | k + 1, hk => by
    unfold lineTo
    rw [lineTo_app xs x L k (by omega), List.getElem?_append_left (by omega)]
structure MkG (T : Nat) (s : Mk) : Prop where
  len : s.l.length = 48
  rng : ∀ i, i < T → ∃ v, s.l[i]? = some v ∧ 0 ≤ v ∧ v < (T : Int)
  inj : ∀ i j v, i < T → j < T → s.l[i]? = some v → s.l[j]? = some v → i = j
  sur : ∀ v : Nat, v < T → ∃ i, i < T ∧ s.l[i]? = some (v : Int)
  xs : ∀ x ∈ s.xs, okC T x = true
  ps : ∀ x ∈ s.ps, okP T x = true
  ends : endsTo s.xs (lineL T) s.xs.length = some (s.l.take T)
  line : lineTo s.xs (lineL 48) s.xs.length = s.l
theorem lineL_get {n i : Nat} (h : i < n) : (lineL n)[i]? = some (i : Int) := by simp [lineL, h]
theorem MkG.start {T : Nat} (h : T ≤ 48) : MkG T ⟨lineL 48, [], []⟩ where
  len := lineL_len 48
  rng := fun i hi => ⟨(i : Int), lineL_get (by omega), by omega, by omega⟩
  inj := fun i j v hi hj h1 h2 => by
    rw [lineL_get (by omega)] at h1 h2
    injection h1 with h1; injection h2 with h2; omega
  sur := fun v hv => ⟨v, hv, lineL_get (by omega)⟩
  xs := by simp
  ps := by simp
  ends := by show some _ = some _; rw [lineL_take T h]
  line := rfl
theorem MkG.pin {T : Nat} {s : Mk} (h : MkG T s) (i : Int) (mid : Nat) (hi : 0 ≤ i) (hm : mid + 1 < T) : MkG T (s.pin i mid) := by
  obtain ⟨la, ha, a0, a1⟩ := h.rng mid (by omega)
  obtain ⟨lb, hb, b0, b1⟩ := h.rng (mid + 1) hm
  have hne : la ≠ lb := fun e => by
    have := h.inj mid (mid + 1) la (by omega) hm ha (e ▸ hb)
    omega
  refine ⟨h.len, h.rng, h.inj, h.sur, h.xs, ?_, h.ends, h.line⟩
  rw [Mk.pin_eq ha hb]
  intro x hx
  rcases List.mem_append.1 hx with hx | hx
  · exact h.ps x hx
  · obtain rfl : x = ⟨i, (mid : Int), la, lb⟩ := by simpa using hx
    unfold okP
    have e : (la == lb) = false := by simpa using hne
    rw [e]
    simp
    omega
theorem MkG.cross {T : Nat} {s : Mk} (h : MkG T s) (hT : T ≤ 48) (i : Int) (mid : Nat) (n : Int) (t : Nat) (hi : 0 ≤ i) (ht : mkAt mid n = (t : Int)) (htT : t + 1 < T) : MkG T (s.cross i mid n) := by
  obtain ⟨la, ha, a0, a1⟩ := h.rng t (by omega)
  obtain ⟨lb, hb, b0, b1⟩ := h.rng (t + 1) htT
  rw [Mk.cross_eq ht ha hb]
  obtain ⟨x, hx⟩ : ∃ x, x = (if n < 0 then (⟨i, (t : Int), lb, la⟩ : Q4) else ⟨i, (t : Int), la, lb⟩) := ⟨_, rfl⟩
  rw [← hx]
  have xa : x.a = i := by rw [hx]; split <;> rfl
  have xb : x.b = (t : Int) := by rw [hx]; split <;> rfl
  have xb2 : x.b.toNat = t := by rw [xb]; simp
  have hl := h.len
  have hlen : (s.xs ++ [x]).length = s.xs.length + 1 := by simp
  have hte : endOk la lb x = true := by rw [hx]; unfold endOk; split <;> simp
  refine ⟨by simp [hl], ?_, ?_, ?_, ?_, h.ps, ?_, ?_⟩
  · intro j hj
    simp only [set2_get ha hb]
    exact h.rng _ (tr_lt htT hj)
  · intro j k v hj hk h1 h2
    simp only [set2_get ha hb] at h1 h2
    have := h.inj _ _ v (tr_lt htT hj) (tr_lt htT hk) h1 h2
    have e := congrArg (tr t) this
    rwa [tr_tr, tr_tr] at e
  · intro v hv
    obtain ⟨j, hj, hg⟩ := h.sur v hv
    exact ⟨tr t j, tr_lt htT hj, by simp only [set2_get ha hb, tr_tr]; exact hg⟩
  · intro y hy
    rcases List.mem_append.1 hy with hy | hy
    · exact h.xs y hy
    · obtain rfl : y = x := by simpa using hy
      unfold okC; rw [xa, xb]; simp; omega
  · show endsTo (s.xs ++ [x]) (lineL T) (s.xs ++ [x]).length = _
    rw [hlen]
    rw [endsTo_succ (L' := s.l.take T) (by rw [endsTo_app _ _ _ _ (Nat.le_refl _)]; exact h.ends) List.getElem?_concat_length]
    rw [endStep_get xb2 (by rw [List.getElem?_take, if_pos (by omega)]; exact ha) (by rw [List.getElem?_take, if_pos htT]; exact hb), hte, if_pos rfl, List.take_set, List.take_set]
  · show lineTo (s.xs ++ [x]) (lineL 48) (s.xs ++ [x]).length = _
    rw [hlen, lineTo_succ List.getElem?_concat_length]
    rw [lineTo_app _ _ _ _ (Nat.le_refl _), h.line]
    unfold swapL
    rw [xb2, List.getD_eq_getElem?_getD, List.getD_eq_getElem?_getD, ha, hb]; rfl
theorem MkG.works {p : Int} {ws : List Wk} (hok : SOk p ws) (k : Nat) : MkG (2 * p).toNat (Mk.works ws k) :=
  Mk.works_ind hok (fun s i mid hi hm h => h.pin i mid hi hm) (fun s i mid n t hi ht htT h => h.cross (by have := hok.le; omega) i mid n t hi ht htT) (MkG.start (by have := hok.le; omega)) k
/-- pins: at most as many as letters, or one -/
theorem Mk.works_ps {p : Int} {ws : List Wk} (hok : SOk p ws) : ∀ k, (Mk.works ws k).ps.length ≤ 16 * k
  | 0 => Nat.le_refl _
  | k + 1 => by
    have ih := Mk.works_ps hok k
    unfold Mk.works
    split
    · rename_i x hx
      obtain ⟨_, _, _, hk⟩ := bad_at (hok.good x (mem_of_get hx))
      have h16 : x.word.data.toList.length ≤ 16 := by rw [str_len]; exact hok.short x (mem_of_get hx)
      unfold Mk.work
      split
      · rename_i h2
        have h0 : x.word.data.toList.length = 0 := by rw [str_len]; exact hk h2
        rw [h0]
        show ((Mk.works ws k).pin (k : Int) (mkMid x)).ps.length ≤ _
        unfold Mk.pin
        simp
        omega
      · have := Mk.letters_ps (Mk.works ws k) (k : Int) (mkMid x) x.word.data.toList x.word.data.toList.length
        omega
    · omega
theorem Mk.valid {p : Int} {ws : List Wk} (hok : SOk p ws) (k : Nat) (hk : k ≤ ws.length) : ckE (2 * p) (Mk.works ws k).xs (Mk.works ws k).ps = 0 := by
  have G := MkG.works hok k
  obtain ⟨h1, h2⟩ := Mk.works_xs hok.short k
  have h3 := Mk.works_ps hok k
  have hl := hok.len
  have hle := hok.le
  have hge := hok.ge
  have hT : (((2 * p).toNat : Nat) : Int) = 2 * p := by omega
  have e1 : numsOk (2 * p) (Mk.works ws k).xs (Mk.works ws k).ps = true := by
    unfold numsOk
    have a1 : (Mk.works ws k).xs.all (okC (2 * p)) = true := List.all_eq_true.2 (fun x hx => by have := G.xs x hx; rwa [hT] at this)
    have a2 : (Mk.works ws k).ps.all (okP (2 * p)) = true := List.all_eq_true.2 (fun x hx => by have := G.ps x hx; rwa [hT] at this)
    rw [a1, a2, decide_eq_true (by omega)]; rfl
  have e2 : endsOk (2 * p) (Mk.works ws k).xs = true := by unfold endsOk; rw [G.ends]; rfl
  unfold ckE
  rw [if_neg (by omega), if_neg (by rw [e1]; decide), if_neg (by rw [e2]; decide)]
theorem Mk.endsR {p : Int} {ws : List Wk} (hok : SOk p ws) (k : Nat) (hk : k ≤ ws.length) : endsR (2 * p) (Mk.works ws k).xs (Mk.works ws k).ps = (Mk.works ws k).l.take (2 * p).toNat := by
  unfold Go.Proofs.Ytpljaoagiaijiaa.endsR
  rw [if_pos (Mk.valid hok k hk), (MkG.works hok k).line]
/-! ### two threads -/
def meetC (xs : List Q4) (a b : Int) : Nat := xs.countP (fun x => [a, b].all (ofP x))
theorem ofTo_len (xs : List Q4) (ths : List Int) : ∀ k, k ≤ xs.length → (ofTo xs ths k).length = (xs.take k).countP (fun x => ths.all (ofP x))
  | 0, _ => by simp [ofTo]
  | k + 1, hk => by
    obtain ⟨x, hx⟩ := get_of_lt (l := xs) (k := k) (by omega)
    have ih := ofTo_len xs ths k (by omega)
    rw [List.take_add_one, hx, List.countP_append]
    cases h : ths.all (ofP x) with
    | true => rw [ofTo_yes hx h, List.length_append, ih]; simp [h]
    | false => rw [ofTo_no hx h, ih]; simp [h]
/-- the order of two threads, and how often they have met -/
def MkO (T : Nat) (a b : Int) (s : Mk) : Prop := ∀ i j, i < T → j < T → s.l[i]? = some a → s.l[j]? = some b → (i < j ↔ (a < b ↔ meetC s.xs a b % 2 = 0))
theorem MkO.cross {T : Nat} {a b : Int} {s : Mk} (G : MkG T s) (h : MkO T a b s) (hab : a ≠ b) (i : Int) (mid : Nat) (n : Int) (t : Nat) (ht : mkAt mid n = (t : Int)) (htT : t + 1 < T) : MkO T a b (s.cross i mid n) := by
  obtain ⟨la, ha, _, _⟩ := G.rng t (by omega)
  obtain ⟨lb, hb, _, _⟩ := G.rng (t + 1) htT
  rw [Mk.cross_eq ht ha hb]
  obtain ⟨x, hx⟩ : ∃ x, x = (if n < 0 then (⟨i, (t : Int), lb, la⟩ : Q4) else ⟨i, (t : Int), la, lb⟩) := ⟨_, rfl⟩
  rw [← hx]
  intro u v hu hv h1 h2
  simp only [set2_get ha hb] at h1 h2
  have H := h _ _ (tr_lt htT hu) (tr_lt htT hv) h1 h2
  have hm : meetC (s.xs ++ [x]) a b = meetC s.xs a b + if [a, b].all (ofP x) = true then 1 else 0 := by
    unfold meetC; rw [List.countP_append, List.countP_singleton]
  have hcd : (x.c = la ∧ x.d = lb) ∨ (x.c = lb ∧ x.d = la) := by rw [hx]; split <;> simp
  show u < v ↔ (a < b ↔ meetC (s.xs ++ [x]) a b % 2 = 0)
  rw [hm]
  by_cases hmeet : (la = a ∧ lb = b) ∨ (la = b ∧ lb = a)
  · have hall : [a, b].all (ofP x) = true := by
      unfold ofP
      rcases hcd with ⟨e1, e2⟩ | ⟨e1, e2⟩ <;> rcases hmeet with ⟨e3, e4⟩ | ⟨e3, e4⟩ <;> simp [e1, e2, e3, e4]
    rw [if_pos hall]
    rcases hmeet with ⟨e3, e4⟩ | ⟨e3, e4⟩
    · rw [e3] at ha; rw [e4] at hb
      have p1 := G.inj _ _ _ (tr_lt htT hu) (show t < T by omega) h1 ha
      have p2 := G.inj _ _ _ (tr_lt htT hv) htT h2 hb
      have q1 : u = t + 1 := by have := congrArg (tr t) p1; rw [tr_tr] at this; rw [this]; first | exact tr_a _ | exact tr_b _
      have q2 : v = t := by have := congrArg (tr t) p2; rw [tr_tr] at this; rw [this]; first | exact tr_a _ | exact tr_b _
      rw [p1, p2] at H
      subst q1 q2
      omega
    · rw [e3] at ha; rw [e4] at hb
      have p1 := G.inj _ _ _ (tr_lt htT hu) htT h1 hb
      have p2 := G.inj _ _ _ (tr_lt htT hv) (show t < T by omega) h2 ha
      have q1 : u = t := by have := congrArg (tr t) p1; rw [tr_tr] at this; rw [this]; first | exact tr_a _ | exact tr_b _
      have q2 : v = t + 1 := by have := congrArg (tr t) p2; rw [tr_tr] at this; rw [this]; first | exact tr_a _ | exact tr_b _
      rw [p1, p2] at H
      subst q1 q2
      omega
  · have hall : ¬ [a, b].all (ofP x) = true := by
      unfold ofP
      intro hh
      simp only [List.all_cons, List.all_nil, Bool.and_true, Bool.and_eq_true, Bool.or_eq_true, beq_iff_eq] at hh
      obtain ⟨g1, g2⟩ := hh
      apply hmeet
      rcases hcd with ⟨e1, e2⟩ | ⟨e1, e2⟩ <;> rw [e1, e2] at g1 g2 <;> rcases g1 with g1 | g1 <;> rcases g2 with g2 | g2 <;> first | (exact absurd (g1.trans g2.symm) hab) | (left; exact ⟨g1.symm, g2.symm⟩) | (right; exact ⟨g2.symm, g1.symm⟩)
    rw [if_neg hall, Nat.add_zero, ← H]
    have hne : tr t u ≠ tr t v := fun e => by
      rw [e, h2] at h1
      injection h1 with h1
      exact hab h1.symm
    have hnp : ¬ (tr t u = t ∧ tr t v = t + 1) := fun ⟨e1, e2⟩ => by
      rw [e1, ha] at h1; rw [e2, hb] at h2
      injection h1 with h1; injection h2 with h2
      exact hmeet (.inl ⟨h1, h2⟩)
    have hnq : ¬ (tr t u = t + 1 ∧ tr t v = t) := fun ⟨e1, e2⟩ => by
      rw [e1, hb] at h1; rw [e2, ha] at h2
      injection h1 with h1; injection h2 with h2
      exact hmeet (.inr ⟨h2, h1⟩)
    rcases tr_cases t u with ⟨q1, q2⟩ | ⟨q1, q2⟩ | ⟨q1, q1', q2⟩ <;> rcases tr_cases t v with ⟨r1, r2⟩ | ⟨r1, r2⟩ | ⟨r1, r1', r2⟩ <;> omega
theorem Mk.order {p : Int} {ws : List Wk} (hok : SOk p ws) {a b : Int} (hab : a ≠ b) (k : Nat) : MkO (2 * p).toNat a b (Mk.works ws k) := by
  have hle := hok.le
  exact (Mk.works_ind (Q := fun s => MkG (2 * p).toNat s ∧ MkO (2 * p).toNat a b s) hok (fun s i mid hi hm h => ⟨h.1.pin i mid hi hm, h.2⟩)
    (fun s i mid n t hi ht htT h => ⟨h.1.cross (by omega) i mid n t hi ht htT, MkO.cross h.1 h.2 hab i mid n t ht htT⟩)
    ⟨MkG.start (by omega), fun i j hi hj h1 h2 => by
      rw [lineL_get (by omega)] at h1 h2
      injection h1 with h1; injection h2 with h2
      show i < j ↔ (a < b ↔ meetC [] a b % 2 = 0)
      have : meetC [] a b = 0 := rfl
      rw [this]
      omega⟩ k).2
end Go.Proofs.Ytpljaoagiaijiaa
