/-
  Plain law: a cloth that is made is valid; its line is that of its crossings; two threads have exchanged their order exactly if they meet an odd number of times.
-/
import Derived.Test.YtdimfbmbomgiaaaV5
namespace Go.Proofs.Ytdimfbmbomgiaaa
open Go.RowKit
/-- what holds at the start, and is kept by pins and crossings within T places, holds of what a sheet makes -/
theorem Mk.crosses_ind {T : Nat} {Q : Mk → Prop} (hc : ∀ s i mid n t, 0 ≤ i → mkAt mid n = ((t : Nat) : Int) → t + 1 < T → Q s → Q (s.cross i mid n)) {s : Mk} {i : Int} {mid : Nat} (hi : 0 ≤ i) (h1 : 1 ≤ mid) (h2 : mid + 2 < T) {ns : List Int} (hn : ∀ n ∈ ns, n ≠ 0 ∧ -3 ≤ n ∧ n ≤ 3) (hq : Q s) : ∀ k, Q (s.crosses i mid ns k)
  | 0 => hq
  | k + 1 => by
    have ih := Mk.crosses_ind hc hi h1 h2 hn hq k
    unfold Mk.crosses
    split
    · rename_i n hx
      obtain ⟨n0, n1, n2⟩ := hn n (mem_of_get hx)
      obtain ⟨t, ht⟩ : ∃ t : Nat, mkAt mid n = (t : Int) := Int.eq_ofNat_of_zero_le (by unfold mkAt; split <;> omega)
      exact hc _ i mid n t hi ht (by unfold mkAt at ht; split at ht <;> omega) ih
    · exact ih
theorem Mk.letters_ind {T : Nat} {Q : Mk → Prop} (hp : ∀ s i mid, 0 ≤ i → mid + 1 < T → Q s → Q (s.pin i mid)) (hc : ∀ s i mid n t, 0 ≤ i → mkAt mid n = ((t : Nat) : Int) → t + 1 < T → Q s → Q (s.cross i mid n)) {s : Mk} {i : Int} {mid : Nat} (hi : 0 ≤ i) (h1 : 1 ≤ mid) (h2 : mid + 2 < T) {bs : List UInt8} (hq : Q s) : ∀ k, Q (s.letters i mid bs k)
  | 0 => hq
  | k + 1 => by
    have ih := Mk.letters_ind hp hc hi h1 h2 (bs := bs) hq k
    unfold Mk.letters
    split
    · rename_i c hx
      unfold Mk.letter
      split
      · exact hp _ i mid hi (by omega) ih
      · exact Mk.crosses_ind hc hi h1 h2 (crL_mem c) ih _
    · exact ih
theorem Mk.works_ind {p : Int} {ws : List Wk} (hok : SOk p ws) {Q : Mk → Prop} (hp : ∀ s i mid, 0 ≤ i → mid + 1 < (2 * p).toNat → Q s → Q (s.pin i mid)) (hc : ∀ s i mid n t, 0 ≤ i → mkAt mid n = ((t : Nat) : Int) → t + 1 < (2 * p).toNat → Q s → Q (s.cross i mid n)) (h0 : Q ⟨lineL 48, [], []⟩) : ∀ k, Q (Mk.works ws k)
  | 0 => h0
  | k + 1 => by
    have ih := Mk.works_ind hok hp hc h0 k
    unfold Mk.works
    split
    · rename_i x hx
      obtain ⟨_, a0, a1, _⟩ := bad_at (hok.good x (mem_of_get hx))
      have h1 : 1 ≤ mkMid x := by unfold mkMid; omega
      have h2 : mkMid x + 2 < (2 * p).toNat := by unfold mkMid; omega
      unfold Mk.work
      refine Mk.letters_ind hp hc (Int.natCast_nonneg k) h1 h2 ?_ _
      split
      · exact hp _ _ _ (Int.natCast_nonneg k) (by omega) ih
      · exact ih
    · exact ih
/-- two neighbours exchanged -/
def tr (t i : Nat) : Nat := if i = t then t + 1 else if i = t + 1 then t else i
theorem set2_get {l : List Int} {t : Nat} {a b : Int} (ha : l[t]? = some a) (hb : l[t + 1]? = some b) (i : Nat) : ((l.set t b).set (t + 1) a)[i]? = l[tr t i]? := by
  have h1 := lt_of_get ha
  have h2 := lt_of_get hb
  unfold tr
  rw [List.getElem?_set, List.getElem?_set, List.length_set]
  by_cases e1 : i = t
  · subst e1; rw [if_neg (by omega), if_pos rfl, if_pos h1, if_pos rfl, hb]
  · by_cases e2 : i = t + 1
    · subst e2; rw [if_pos rfl, if_pos h2, if_neg e1, if_pos rfl, ha]
    · rw [if_neg (by omega), if_neg (by omega), if_neg e1, if_neg e2]
theorem tr_a (t : Nat) : tr t t = t + 1 := by unfold tr; rw [if_pos rfl]
theorem tr_b (t : Nat) : tr t (t + 1) = t := by unfold tr; rw [if_neg (by omega), if_pos rfl]
theorem tr_c {t i : Nat} (h1 : i ≠ t) (h2 : i ≠ t + 1) : tr t i = i := by unfold tr; rw [if_neg h1, if_neg h2]
theorem tr_cases (t i : Nat) : (i = t ∧ tr t i = t + 1) ∨ (i = t + 1 ∧ tr t i = t) ∨ (i ≠ t ∧ i ≠ t + 1 ∧ tr t i = i) := by
  by_cases h1 : i = t
  · subst h1; exact .inl ⟨rfl, tr_a _⟩
  · by_cases h2 : i = t + 1
    · subst h2; exact .inr (.inl ⟨rfl, tr_b _⟩)
    · exact .inr (.inr ⟨h1, h2, tr_c h1 h2⟩)
theorem tr_tr (t i : Nat) : tr t (tr t i) = i := by
  rcases tr_cases t i with ⟨h, e⟩ | ⟨h, e⟩ | ⟨h1, h2, e⟩
  · rw [e, tr_b, h]
  · rw [e, tr_a, h]
  · rw [e, e]
theorem tr_lt {t i T : Nat} (ht : t + 1 < T) (hi : i < T) : tr t i < T := by
  rcases tr_cases t i with ⟨h, e⟩ | ⟨h, e⟩ | ⟨h1, h2, e⟩ <;> omega
theorem endsTo_app (xs : List Q4) (x : Q4) (L : List Int) : ∀ k, k ≤ xs.length → endsTo (xs ++ [x]) L k = endsTo xs L k
  | 0, _ => rfl
  | k + 1, hk => by
    show (endsTo (xs ++ [x]) L k).bind _ = (endsTo xs L k).bind _
    rw [endsTo_app xs x L k (by omega), List.getElem?_append_left (by omega)]
theorem lineTo_app (xs : List Q4) (x : Q4) (L : List Int) : ∀ k, k ≤ xs.length → lineTo (xs ++ [x]) L k = lineTo xs L k
  | 0, _ => rfl
  | k + 1, hk => by
    unfold lineTo
    rw [lineTo_app xs x L k (by omega), List.getElem?_append_left (by omega)]
structure MkG (T : Nat) (s : Mk) : Prop where
  len : s.l.length = 48
  rng : ∀ i, i < T → ∃ v, s.l[i]? = some v ∧ 0 ≤ v ∧ v < (T : Int)
  inj : ∀ i j v, i < T → j < T → s.l[i]? = some v → s.l[j]? = some v → i = j
  sur : ∀ v : Nat, v < T → ∃ i, i < T ∧ s.l[i]? = some (v : Int)
  xs : ∀ x ∈ s.xs, okC T x = true
  ps : ∀ x ∈ s.ps, okP T x = true
  ends : endsTo s.xs (lineL T) s.xs.length = some (s.l.take T)
  line : lineTo s.xs (lineL 48) s.xs.length = s.l
theorem lineL_get {n i : Nat} (h : i < n) : (lineL n)[i]? = some (i : Int) := by simp [lineL, h]
theorem MkG.start {T : Nat} (h : T ≤ 48) : MkG T ⟨lineL 48, [], []⟩ where
  len := lineL_len 48
  rng := fun i hi => ⟨(i : Int), lineL_get (by omega), by omega, by omega⟩
  inj := fun i j v hi hj h1 h2 => by
    rw [lineL_get (by omega)] at h1 h2
    injection h1 with h1; injection h2 with h2; omega
  sur := fun v hv => ⟨v, hv, lineL_get (by omega)⟩
  xs := by simp
  ps := by simp
  ends := by show some _ = some _; rw [lineL_take T h]
  line := rfl
theorem MkG.pin {T : Nat} {s : Mk} (h : MkG T s) (i : Int) (mid : Nat) (hi : 0 ≤ i) (hm : mid + 1 < T) : MkG T (s.pin i mid) := by
  obtain ⟨la, ha, a0, a1⟩ := h.rng mid (by omega)
  obtain ⟨lb, hb, b0, b1⟩ := h.rng (mid + 1) hm
  have hne : la ≠ lb := fun e => by
    have := h.inj mid (mid + 1) la (by omega) hm ha (e ▸ hb)
    omega
  refine ⟨h.len, h.rng, h.inj, h.sur, h.xs, ?_, h.ends, h.line⟩
  rw [Mk.pin_eq ha hb]
  intro x hx
  rcases List.mem_append.1 hx with hx | hx
  · exact h.ps x hx
  · obtain rfl : x = ⟨i, (mid : Int), la, lb⟩ := by simpa using hx
    unfold okP
    have e : (la == lb) = false := by simpa using hne
    rw [e]
    simp
    omega
theorem MkG.cross {T : Nat} {s : Mk} (h : MkG T s) (hT : T ≤ 48) (i : Int) (mid : Nat) (n : Int) (t : Nat) (hi : 0 ≤ i) (ht : mkAt mid n = (t : Int)) (htT : t + 1 < T) : MkG T (s.cross i mid n) := by
  obtain ⟨la, ha, a0, a1⟩ := h.rng t (by omega)
  obtain ⟨lb, hb, b0, b1⟩ := h.rng (t + 1) htT
  rw [Mk.cross_eq ht ha hb]
  obtain ⟨x, hx⟩ : ∃ x, x = (if n < 0 then (⟨i, (t : Int), lb, la⟩ : Q4) else ⟨i, (t : Int), la, lb⟩) := ⟨_, rfl⟩
  rw [← hx]
  have xa : x.a = i := by rw [hx]; split <;> rfl
  have xb : x.b = (t : Int) := by rw [hx]; split <;> rfl
  have xb2 : x.b.toNat = t := by rw [xb]; simp
  have hl := h.len
  have hlen : (s.xs ++ [x]).length = s.xs.length + 1 := by simp
  have hte : endOk la lb x = true := by rw [hx]; unfold endOk; split <;> simp
  refine ⟨by simp [hl], ?_, ?_, ?_, ?_, h.ps, ?_, ?_⟩
  · intro j hj
    simp only [set2_get ha hb]
    exact h.rng _ (tr_lt htT hj)
  · intro j k v hj hk h1 h2
    simp only [set2_get ha hb] at h1 h2
    have := h.inj _ _ v (tr_lt htT hj) (tr_lt htT hk) h1 h2
    have e := congrArg (tr t) this
    rwa [tr_tr, tr_tr] at e
  · intro v hv
    obtain ⟨j, hj, hg⟩ := h.sur v hv
    exact ⟨tr t j, tr_lt htT hj, by simp only [set2_get ha hb, tr_tr]; exact hg⟩
  · intro y hy
    rcases List.mem_append.1 hy with hy | hy
    · exact h.xs y hy
    · obtain rfl : y = x := by simpa using hy
      unfold okC; rw [xa, xb]; simp; omega
  · show endsTo (s.xs ++ [x]) (lineL T) (s.xs ++ [x]).length = _
    rw [hlen]
    rw [endsTo_succ (L' := s.l.take T) (by rw [endsTo_app _ _ _ _ (Nat.le_refl _)]; exact h.ends) List.getElem?_concat_length]
    rw [endStep_get xb2 (by rw [List.getElem?_take, if_pos (by omega)]; exact ha) (by rw [List.getElem?_take, if_pos htT]; exact hb), hte, if_pos rfl, List.take_set, List.take_set]
  · show lineTo (s.xs ++ [x]) (lineL 48) (s.xs ++ [x]).length = _
    rw [hlen, lineTo_succ List.getElem?_concat_length]
    rw [lineTo_app _ _ _ _ (Nat.le_refl _), h.line]
    unfold swapL
    rw [xb2, List.getD_eq_getElem?_getD, List.getD_eq_getElem?_getD, ha, hb]; rfl
theorem MkG.works {p : Int} {ws : List Wk} (hok : SOk p ws) (k : Nat) : MkG (2 * p).toNat (Mk.works ws k) :=
  Mk.works_ind hok (fun s i mid hi hm h => h.pin i mid hi hm) (fun s i mid n t hi ht htT h => h.cross (by have := hok.le; omega) i mid n t hi ht htT) (MkG.start (by have := hok.le; omega)) k
/-- pins: at most as many as letters, or one -/
theorem Mk.works_ps {p : Int} {ws : List Wk} (hok : SOk p ws) : ∀ k, (Mk.works ws k).ps.length ≤ 16 * k
  | 0 => Nat.le_refl _
  | k + 1 => by
    have ih := Mk.works_ps hok k
    unfold Mk.works
    split
    · rename_i x hx
      obtain ⟨_, _, _, hk⟩ := bad_at (hok.good x (mem_of_get hx))
      have h16 : x.word.data.toList.length ≤ 16 := by rw [str_len]; exact hok.short x (mem_of_get hx)
      unfold Mk.work
      split
      · rename_i h2
        have h0 : x.word.data.toList.length = 0 := by rw [str_len]; exact hk h2
        rw [h0]
        show ((Mk.works ws k).pin (k : Int) (mkMid x)).ps.length ≤ _
        unfold Mk.pin
        simp
        omega
      · have := Mk.letters_ps (Mk.works ws k) (k : Int) (mkMid x) x.word.data.toList x.word.data.toList.length
        omega
    · omega
theorem Mk.valid {p : Int} {ws : List Wk} (hok : SOk p ws) (k : Nat) (hk : k ≤ ws.length) : ckE (2 * p) (Mk.works ws k).xs (Mk.works ws k).ps = 0 := by
  have G := MkG.works hok k
  obtain ⟨h1, h2⟩ := Mk.works_xs hok.short k
  have h3 := Mk.works_ps hok k
  have hl := hok.len
  have hle := hok.le
  have hge := hok.ge
  have hT : (((2 * p).toNat : Nat) : Int) = 2 * p := by omega
  have e1 : numsOk (2 * p) (Mk.works ws k).xs (Mk.works ws k).ps = true := by
    unfold numsOk
    have a1 : (Mk.works ws k).xs.all (okC (2 * p)) = true := List.all_eq_true.2 (fun x hx => by have := G.xs x hx; rwa [hT] at this)
    have a2 : (Mk.works ws k).ps.all (okP (2 * p)) = true := List.all_eq_true.2 (fun x hx => by have := G.ps x hx; rwa [hT] at this)
    rw [a1, a2, decide_eq_true (by omega)]; rfl
  have e2 : endsOk (2 * p) (Mk.works ws k).xs = true := by unfold endsOk; rw [G.ends]; rfl
  unfold ckE
  rw [if_neg (by omega), if_neg (by rw [e1]; decide), if_neg (by rw [e2]; decide)]
theorem Mk.endsR {p : Int} {ws : List Wk} (hok : SOk p ws) (k : Nat) (hk : k ≤ ws.length) : endsR (2 * p) (Mk.works ws k).xs (Mk.works ws k).ps = (Mk.works ws k).l.take (2 * p).toNat := by
  unfold Go.Proofs.Ytdimfbmbomgiaaa.endsR
  rw [if_pos (Mk.valid hok k hk), (MkG.works hok k).line]
/-! ### two threads -/
def meetC (xs : List Q4) (a b : Int) : Nat := xs.countP (fun x => [a, b].all (ofP x))
theorem ofTo_len (xs : List Q4) (ths : List Int) : ∀ k, k ≤ xs.length → (ofTo xs ths k).length = (xs.take k).countP (fun x => ths.all (ofP x))
  | 0, _ => by simp [ofTo]
  | k + 1, hk => by
    obtain ⟨x, hx⟩ := get_of_lt (l := xs) (k := k) (by omega)
    have ih := ofTo_len xs ths k (by omega)
    rw [List.take_add_one, hx, List.countP_append]
    cases h : ths.all (ofP x) with
    | true => rw [ofTo_yes hx h, List.length_append, ih]; simp [h]
    | false => rw [ofTo_no hx h, ih]; simp [h]
/-- the order of two threads, and how often they have met -/
def MkO (T : Nat) (a b : Int) (s : Mk) : Prop := ∀ i j, i < T → j < T → s.l[i]? = some a → s.l[j]? = some b → (i < j ↔ (a < b ↔ meetC s.xs a b % 2 = 0))
theorem MkO.cross {T : Nat} {a b : Int} {s : Mk} (G : MkG T s) (h : MkO T a b s) (hab : a ≠ b) (i : Int) (mid : Nat) (n : Int) (t : Nat) (ht : mkAt mid n = (t : Int)) (htT : t + 1 < T) : MkO T a b (s.cross i mid n) := by
  obtain ⟨la, ha, _, _⟩ := G.rng t (by omega)
  obtain ⟨lb, hb, _, _⟩ := G.rng (t + 1) htT
  rw [Mk.cross_eq ht ha hb]
  obtain ⟨x, hx⟩ : ∃ x, x = (if n < 0 then (⟨i, (t : Int), lb, la⟩ : Q4) else ⟨i, (t : Int), la, lb⟩) := ⟨_, rfl⟩
  rw [← hx]
  intro u v hu hv h1 h2
  simp only [set2_get ha hb] at h1 h2
  have H := h _ _ (tr_lt htT hu) (tr_lt htT hv) h1 h2
  have hm : meetC (s.xs ++ [x]) a b = meetC s.xs a b + if [a, b].all (ofP x) = true then 1 else 0 := by
    unfold meetC; rw [List.countP_append, List.countP_singleton]
  have hcd : (x.c = la ∧ x.d = lb) ∨ (x.c = lb ∧ x.d = la) := by rw [hx]; split <;> simp
  show u < v ↔ (a < b ↔ meetC (s.xs ++ [x]) a b % 2 = 0)
  rw [hm]
  by_cases hmeet : (la = a ∧ lb = b) ∨ (la = b ∧ lb = a)
  · have hall : [a, b].all (ofP x) = true := by
      unfold ofP
      rcases hcd with ⟨e1, e2⟩ | ⟨e1, e2⟩ <;> rcases hmeet with ⟨e3, e4⟩ | ⟨e3, e4⟩ <;> simp [e1, e2, e3, e4]
    rw [if_pos hall]
    rcases hmeet with ⟨e3, e4⟩ | ⟨e3, e4⟩
    · rw [e3] at ha; rw [e4] at hb
      have p1 := G.inj _ _ _ (tr_lt htT hu) (show t < T by omega) h1 ha
      have p2 := G.inj _ _ _ (tr_lt htT hv) htT h2 hb
      have q1 : u = t + 1 := by have := congrArg (tr t) p1; rw [tr_tr] at this; rw [this]; first | exact tr_a _ | exact tr_b _
      have q2 : v = t := by have := congrArg (tr t) p2; rw [tr_tr] at this; rw [this]; first | exact tr_a _ | exact tr_b _
      rw [p1, p2] at H
      subst q1 q2
      omega
    · rw [e3] at ha; rw [e4] at hb
      have p1 := G.inj _ _ _ (tr_lt htT hu) htT h1 hb
      have p2 := G.inj _ _ _ (tr_lt htT hv) (show t < T by omega) h2 ha
      have q1 : u = t := by have := congrArg (tr t) p1; rw [tr_tr] at this; rw [this]; first | exact tr_a _ | exact tr_b _
      have q2 : v = t + 1 := by have := congrArg (tr t) p2; rw [tr_tr] at this; rw [this]; first | exact tr_a _ | exact tr_b _
      rw [p1, p2] at H
      subst q1 q2
      omega
  · have hall : ¬ [a, b].all (ofP x) = true := by
      unfold ofP
      intro hh
      simp only [List.all_cons, List.all_nil, Bool.and_true, Bool.and_eq_true, Bool.or_eq_true, beq_iff_eq] at hh
      obtain ⟨g1, g2⟩ := hh
      apply hmeet
      rcases hcd with ⟨e1, e2⟩ | ⟨e1, e2⟩ <;> rw [e1, e2] at g1 g2 <;> rcases g1 with g1 | g1 <;> rcases g2 with g2 | g2 <;> first | (exact absurd (g1.trans g2.symm) hab) | (left; exact ⟨g1.symm, g2.symm⟩) | (right; exact ⟨g2.symm, g1.symm⟩)
    rw [if_neg hall, Nat.add_zero, ← H]
    have hne : tr t u ≠ tr t v := fun e => by
      rw [e, h2] at h1
      injection h1 with h1
      exact hab h1.symm
    have hnp : ¬ (tr t u = t ∧ tr t v = t + 1) := fun ⟨e1, e2⟩ => by
      rw [e1, ha] at h1; rw [e2, hb] at h2
      injection h1 with h1; injection h2 with h2
      exact hmeet (.inl ⟨h1, h2⟩)
    have hnq : ¬ (tr t u = t + 1 ∧ tr t v = t) := fun ⟨e1, e2⟩ => by
      rw [e1, hb] at h1; rw [e2, ha] at h2
      injection h1 with h1; injection h2 with h2
      exact hmeet (.inr ⟨h2, h1⟩)
    rcases tr_cases t u with ⟨q1, q2⟩ | ⟨q1, q2⟩ | ⟨q1, q1', q2⟩ <;> rcases tr_cases t v with ⟨r1, r2⟩ | ⟨r1, r2⟩ | ⟨r1, r1', r2⟩ <;> omega
theorem Mk.order {p : Int} {ws : List Wk} (hok : SOk p ws) {a b : Int} (hab : a ≠ b) (k : Nat) : MkO (2 * p).toNat a b (Mk.works ws k) := by
  have hle := hok.le
  exact (Mk.works_ind (Q := fun s => MkG (2 * p).toNat s ∧ MkO (2 * p).toNat a b s) hok (fun s i mid hi hm h => ⟨h.1.pin i mid hi hm, h.2⟩)
    (fun s i mid n t hi ht htT h => ⟨h.1.cross (by omega) i mid n t hi ht htT, MkO.cross h.1 h.2 hab i mid n t ht htT⟩)
    ⟨MkG.start (by omega), fun i j hi hj h1 h2 => by
      rw [lineL_get (by omega)] at h1 h2
      injection h1 with h1; injection h2 with h2
      show i < j ↔ (a < b ↔ meetC [] a b % 2 = 0)
      have : meetC [] a b = 0 := rfl
      rw [this]
      omega⟩ k).2
end Go.Proofs.Ytdimfbmbomgiaaa
/-
  Plain law: in any order of the works that keeps the order of those that touch, the line is the same, and each thread crosses the same threads in the same order.
-/
namespace Go.Proofs.Ytdimfbmbomgiaaa
open Go.RowKit
/-! ### events: what a work does does not depend on the line -/
/-- none: a pin; else a crossing: its work, its place, and whether it is turned -/
abbrev Ev := Option (Int × Int × Bool)
structure St where
  l : List Int
  xs : List Q4
  np : Nat
def evX (l : List Int) (i at_ : Int) (neg : Bool) : Q4 := if neg then ⟨i, at_, l.getD (at_.toNat + 1) 0, l.getD at_.toNat 0⟩ else ⟨i, at_, l.getD at_.toNat 0, l.getD (at_.toNat + 1) 0⟩
def St.step (s : St) : Ev → St
  | none => { s with np := s.np + 1 }
  | some (i, at_, neg) => { s with l := swapL s.l (evX s.l i at_ neg), xs := s.xs ++ [evX s.l i at_ neg] }
def St.run (s : St) (es : List Ev) : St := es.foldl St.step s
theorem St.run_app (s : St) (a b : List Ev) : s.run (a ++ b) = (s.run a).run b := by unfold St.run; rw [List.foldl_append]
def Mk.abs (s : Mk) : St := ⟨s.l, s.xs, s.ps.length⟩
def evL (i : Int) (mid : Nat) (c : UInt8) : List Ev := if c = 80 then [none] else (crW [c] 1).map (fun n => some (i, mkAt mid n, decide (n < 0)))
def evW (i : Int) (x : Wk) : List Ev := (if x.kind = 2 then [none] else []) ++ x.word.data.toList.flatMap (evL i (mkMid x))
theorem Mk.abs_cross (s : Mk) (i : Int) (mid : Nat) (n : Int) : (s.cross i mid n).abs = s.abs.step (some (i, mkAt mid n, decide (n < 0))) := by
  unfold Mk.cross Mk.abs St.step
  have e : mkX s.l i mid n = evX s.l i (mkAt mid n) (decide (n < 0)) := by
    unfold mkX evX
    by_cases h : n < 0 <;> simp [h]
  simp only [e]
theorem Mk.abs_pin (s : Mk) (i : Int) (mid : Nat) : (s.pin i mid).abs = s.abs.step none := by
  unfold Mk.pin Mk.abs St.step; simp
theorem Mk.abs_crosses (s : Mk) (i : Int) (mid : Nat) (ns : List Int) : ∀ k, k ≤ ns.length → (s.crosses i mid ns k).abs = s.abs.run ((ns.take k).map (fun n => some (i, mkAt mid n, decide (n < 0))))
  | 0, _ => rfl
  | k + 1, hk => by
    obtain ⟨n, hn⟩ := get_of_lt (l := ns) (k := k) (by omega)
    rw [Mk.crosses_succ hn, Mk.abs_cross, Mk.abs_crosses s i mid ns k (by omega), List.take_add_one, hn, List.map_append, St.run_app]
    rfl
theorem Mk.abs_letter (s : Mk) (i : Int) (mid : Nat) (c : UInt8) : (s.letter i mid c).abs = s.abs.run (evL i mid c) := by
  unfold Mk.letter evL
  by_cases h : c = 80
  · rw [if_pos h, if_pos h, Mk.abs_pin]; rfl
  · rw [if_neg h, if_neg h, Mk.abs_crosses _ _ _ _ _ (Nat.le_refl _), List.take_length]
theorem Mk.abs_letters (s : Mk) (i : Int) (mid : Nat) (bs : List UInt8) : ∀ k, k ≤ bs.length → (s.letters i mid bs k).abs = s.abs.run ((bs.take k).flatMap (evL i mid))
  | 0, _ => rfl
  | k + 1, hk => by
    obtain ⟨c, hc⟩ := get_of_lt (l := bs) (k := k) (by omega)
    rw [Mk.letters_succ hc, Mk.abs_letter, Mk.abs_letters s i mid bs k (by omega), List.take_add_one, hc, List.flatMap_append, St.run_app]
    simp
theorem Mk.abs_work (s : Mk) (i : Nat) (x : Wk) : (s.work i x).abs = s.abs.run (evW (i : Int) x) := by
  unfold Mk.work evW
  rw [Mk.abs_letters _ _ _ _ _ (Nat.le_refl _), List.take_length, St.run_app]
  split
  · rw [Mk.abs_pin]; rfl
  · rfl
/-! ### what is kept by an exchange -/
/-- what a thread does at the crossings: by which work, which other thread, and whether it goes over -/
def hist (th : Int) (xs : List Q4) : List (Int × Int × Bool) := xs.flatMap (fun x => (if x.c = th then [(x.a, x.d, true)] else []) ++ (if x.d = th then [(x.a, x.c, false)] else []))
theorem hist_app (th : Int) (xs ys : List Q4) : hist th (xs ++ ys) = hist th xs ++ hist th ys := by unfold hist; rw [List.flatMap_append]
structure Alk (s t : St) : Prop where
  l : s.l = t.l
  np : s.np = t.np
  len : s.xs.length = t.xs.length
  h : ∀ th, hist th s.xs = hist th t.xs
theorem Alk.refl (s : St) : Alk s s := ⟨rfl, rfl, rfl, fun _ => rfl⟩
theorem Alk.symm {s t : St} (h : Alk s t) : Alk t s := ⟨h.l.symm, h.np.symm, h.len.symm, fun th => (h.h th).symm⟩
theorem Alk.trans {s t u : St} (h : Alk s t) (k : Alk t u) : Alk s u := ⟨h.l.trans k.l, h.np.trans k.np, h.len.trans k.len, fun th => (h.h th).trans (k.h th)⟩
theorem Alk.step {s t : St} (h : Alk s t) (e : Ev) : Alk (s.step e) (t.step e) := by
  cases e with
  | none => exact ⟨h.l, congrArg (· + 1) h.np, h.len, h.h⟩
  | some q =>
    obtain ⟨i, a, n⟩ := q
    refine ⟨?_, h.np, ?_, fun th => ?_⟩
    · show swapL s.l (evX s.l i a n) = swapL t.l (evX t.l i a n); rw [h.l]
    · show (s.xs ++ [_]).length = (t.xs ++ [_]).length; rw [List.length_append, List.length_append, h.len]; rfl
    · show hist th (s.xs ++ [evX s.l i a n]) = hist th (t.xs ++ [evX t.l i a n]); rw [hist_app, hist_app, h.h th, h.l]
theorem Alk.run {s t : St} (h : Alk s t) (es : List Ev) : Alk (s.run es) (t.run es) := by
  induction es generalizing s t with
  | nil => exact h
  | cons e es ih => exact ih (h.step e)
/-- a line of 48 threads, each but once -/
structure Gd (l : List Int) : Prop where
  len : l.length = 48
  inj : ∀ (i j : Nat) (v : Int), l[i]? = some v → l[j]? = some v → i = j
def evOk : Ev → Bool
  | none => true
  | some (_, a, _) => decide (0 ≤ a) && decide (a + 1 < 48)
theorem swap_evX {l : List Int} {i a : Int} {n : Bool} {t : Nat} {va vb : Int} (ht : a = (t : Int)) (ha : l[t]? = some va) (hb : l[t + 1]? = some vb) : swapL l (evX l i a n) = (l.set t vb).set (t + 1) va ∧ evX l i a n = if n then ⟨i, a, vb, va⟩ else ⟨i, a, va, vb⟩ := by
  have e : evX l i a n = if n then ⟨i, a, vb, va⟩ else ⟨i, a, va, vb⟩ := by
    unfold evX
    rw [ht, show ((t : Nat) : Int).toNat = t by simp, List.getD_eq_getElem?_getD, List.getD_eq_getElem?_getD, ha, hb]; rfl
  refine ⟨?_, e⟩
  have eb : (evX l i a n).b.toNat = t := by rw [e, ht]; split <;> simp
  unfold swapL
  rw [eb, List.getD_eq_getElem?_getD, List.getD_eq_getElem?_getD, ha, hb]; rfl
theorem Gd.get {l : List Int} (h : Gd l) {t : Nat} (ht : t < 48) : ∃ v, l[t]? = some v := get_of_lt (by rw [h.len]; exact ht)
theorem Gd.swap {l : List Int} (h : Gd l) {t : Nat} {va vb : Int} (ha : l[t]? = some va) (hb : l[t + 1]? = some vb) : Gd ((l.set t vb).set (t + 1) va) := by
  refine ⟨by rw [List.length_set, List.length_set]; exact h.len, fun i j v h1 h2 => ?_⟩
  rw [set2_get ha hb] at h1 h2
  have := congrArg (tr t) (h.inj _ _ v h1 h2)
  rwa [tr_tr, tr_tr] at this
theorem ev_place {i a : Int} {n : Bool} (h : evOk (some (i, a, n)) = true) : ∃ t : Nat, a = (t : Int) ∧ t + 1 < 48 := by
  unfold evOk at h
  simp at h
  exact ⟨a.toNat, by omega, by omega⟩
theorem Gd.step {s : St} (h : Gd s.l) {e : Ev} (he : evOk e = true) : Gd (s.step e).l := by
  cases e with
  | none => exact h
  | some q =>
    obtain ⟨i, a, n⟩ := q
    obtain ⟨t, ht, h48⟩ := ev_place he
    obtain ⟨va, ha⟩ := h.get (show t < 48 by omega)
    obtain ⟨vb, hb⟩ := h.get h48
    show Gd (swapL s.l (evX s.l i a n))
    rw [(swap_evX ht ha hb).1]
    exact h.swap ha hb
theorem Gd.run {s : St} (h : Gd s.l) {es : List Ev} (he : ∀ e ∈ es, evOk e = true) : Gd (s.run es).l := by
  induction es generalizing s with
  | nil => exact h
  | cons e es ih => exact ih (h.step (he e (by simp))) (fun f hf => he f (by simp [hf]))
theorem tr_comm {t u p : Nat} (h : t + 2 ≤ u ∨ u + 2 ≤ t) : tr t (tr u p) = tr u (tr t p) := by
  have h1 := tr_cases u p
  have h2 := tr_cases t p
  have h3 := tr_cases t (tr u p)
  have h4 := tr_cases u (tr t p)
  omega
/-- two events whose places are apart -/
def evApart : Ev → Ev → Prop
  | some (_, a, _), some (_, b, _) => a + 2 ≤ b ∨ b + 2 ≤ a
  | _, _ => True
theorem hist_two {th : Int} {x y : Q4} (h1 : x.c ≠ y.c) (h2 : x.c ≠ y.d) (h3 : x.d ≠ y.c) (h4 : x.d ≠ y.d) : hist th [x, y] = hist th [y, x] := by
  unfold hist
  simp only [List.flatMap_cons, List.flatMap_nil, List.append_nil]
  by_cases a1 : x.c = th <;> by_cases a2 : x.d = th <;> by_cases a3 : y.c = th <;> by_cases a4 : y.d = th <;> simp [a1, a2, a3, a4] <;> first | (exact absurd (a1.trans a3.symm) h1) | (exact absurd (a1.trans a4.symm) h2) | (exact absurd (a2.trans a3.symm) h3) | (exact absurd (a2.trans a4.symm) h4)
theorem step_swap {s : St} (h : Gd s.l) {e f : Ev} (he : evOk e = true) (hf : evOk f = true) (ha : evApart e f) : Alk ((s.step e).step f) ((s.step f).step e) := by
  cases e with
  | none => cases f with
    | none => exact Alk.refl _
    | some q => exact Alk.refl _
  | some q =>
    cases f with
    | none => exact Alk.refl _
    | some r =>
      obtain ⟨i, a, n⟩ := q
      obtain ⟨j, b, m⟩ := r
      obtain ⟨t, rfl, h48⟩ := ev_place he
      obtain ⟨u, rfl, k48⟩ := ev_place hf
      have hap : t + 2 ≤ u ∨ u + 2 ≤ t := by have : (t : Int) + 2 ≤ u ∨ (u : Int) + 2 ≤ t := ha; omega
      obtain ⟨va, hva⟩ := h.get (show t < 48 by omega)
      obtain ⟨vb, hvb⟩ := h.get h48
      obtain ⟨wa, hwa⟩ := h.get (show u < 48 by omega)
      obtain ⟨wb, hwb⟩ := h.get k48
      obtain ⟨e1, e2⟩ := swap_evX (i := i) (n := n) rfl hva hvb
      obtain ⟨f1, f2⟩ := swap_evX (i := j) (n := m) rfl hwa hwb
      have c1 : ((s.l.set t vb).set (t + 1) va)[u]? = some wa := by rw [set2_get hva hvb, tr_c (by omega) (by omega)]; exact hwa
      have c2 : ((s.l.set t vb).set (t + 1) va)[u + 1]? = some wb := by rw [set2_get hva hvb, tr_c (by omega) (by omega)]; exact hwb
      have c3 : ((s.l.set u wb).set (u + 1) wa)[t]? = some va := by rw [set2_get hwa hwb, tr_c (by omega) (by omega)]; exact hva
      have c4 : ((s.l.set u wb).set (u + 1) wa)[t + 1]? = some vb := by rw [set2_get hwa hwb, tr_c (by omega) (by omega)]; exact hvb
      obtain ⟨g1, g2⟩ := swap_evX (i := j) (n := m) rfl c1 c2
      obtain ⟨k1, k2⟩ := swap_evX (i := i) (n := n) rfl c3 c4
      have L1 : ((s.step (some (i, (t : Int), n))).step (some (j, (u : Int), m))) = ⟨(((s.l.set t vb).set (t + 1) va).set u wb).set (u + 1) wa, s.xs ++ [evX s.l i (t : Int) n] ++ [evX s.l j (u : Int) m], s.np⟩ := by
        show St.mk (swapL (swapL s.l (evX s.l i (t : Int) n)) (evX (swapL s.l (evX s.l i (t : Int) n)) j (u : Int) m)) (s.xs ++ [evX s.l i (t : Int) n] ++ [evX (swapL s.l (evX s.l i (t : Int) n)) j (u : Int) m]) s.np = _
        rw [e1, g1, g2, f2]
      have L2 : ((s.step (some (j, (u : Int), m))).step (some (i, (t : Int), n))) = ⟨(((s.l.set u wb).set (u + 1) wa).set t vb).set (t + 1) va, s.xs ++ [evX s.l j (u : Int) m] ++ [evX s.l i (t : Int) n], s.np⟩ := by
        show St.mk (swapL (swapL s.l (evX s.l j (u : Int) m)) (evX (swapL s.l (evX s.l j (u : Int) m)) i (t : Int) n)) (s.xs ++ [evX s.l j (u : Int) m] ++ [evX (swapL s.l (evX s.l j (u : Int) m)) i (t : Int) n]) s.np = _
        rw [f1, k1, k2, e2]
      rw [L1, L2]
      have d : ∀ {p q : Nat} {v w : Int}, s.l[p]? = some v → s.l[q]? = some w → p ≠ q → v ≠ w := fun hp hq hpq e => hpq (h.inj _ _ _ hp (e ▸ hq))
      refine ⟨?_, rfl, by simp, fun th => ?_⟩
      · apply List.ext_getElem?
        intro p
        show ((((s.l.set t vb).set (t + 1) va).set u wb).set (u + 1) wa)[p]? = ((((s.l.set u wb).set (u + 1) wa).set t vb).set (t + 1) va)[p]?
        rw [set2_get c1 c2, set2_get hva hvb, set2_get c3 c4, set2_get hwa hwb]
        rw [tr_comm hap]
      · show hist th (s.xs ++ [evX s.l i (t : Int) n] ++ [evX s.l j (u : Int) m]) = hist th (s.xs ++ [evX s.l j (u : Int) m] ++ [evX s.l i (t : Int) n])
        rw [List.append_assoc, List.append_assoc, hist_app, hist_app th s.xs]
        congr 1
        refine hist_two ?_ ?_ ?_ ?_ <;> rw [e2, f2] <;> cases n <;> cases m <;> first | exact d hva hwa (by omega) | exact d hva hwb (by omega) | exact d hvb hwa (by omega) | exact d hvb hwb (by omega)
theorem run_one {s : St} (h : Gd s.l) {e : Ev} {es : List Ev} (he : evOk e = true) (hes : ∀ f ∈ es, evOk f = true ∧ evApart f e) : Alk ((s.run es).step e) ((s.step e).run es) := by
  induction es generalizing s with
  | nil => exact Alk.refl _
  | cons f es ih =>
    have hf := hes f (by simp)
    have h1 := ih (s := s.step f) (h.step hf.1) (fun g hg => hes g (by simp [hg]))
    exact h1.trans ((step_swap h hf.1 he hf.2).run es)
theorem run_swap {s : St} (h : Gd s.l) {es fs : List Ev} (he : ∀ e ∈ es, evOk e = true) (hf : ∀ f ∈ fs, evOk f = true) (hap : ∀ e ∈ es, ∀ f ∈ fs, evApart f e) : Alk ((s.run fs).run es) ((s.run es).run fs) := by
  induction es generalizing s with
  | nil => exact Alk.refl _
  | cons e es ih =>
    have h1 := run_one h (he e (by simp)) (fun f hf' => ⟨hf f hf', hap e (by simp) f hf'⟩)
    have h2 := ih (s := s.step e) (h.step (he e (by simp))) (fun g hg => he g (by simp [hg])) (fun g hg f hf' => hap g (by simp [hg]) f hf')
    exact (h1.run es).trans h2
/-! ### works in another order -/
abbrev LW := Int × Wk
def evs (W : List LW) : List Ev := W.flatMap (fun p => evW p.1 p.2)
def lwOk (p : LW) : Prop := 0 ≤ p.2.at_ ∧ p.2.at_ ≤ 22
def lwApart (p q : LW) : Prop := p.2.at_ + 2 ≤ q.2.at_ ∨ q.2.at_ + 2 ≤ p.2.at_
theorem evW_mem {i : Int} {x : Wk} {e : Ev} (h0 : 0 ≤ x.at_) (h : e ∈ evW i x) : e = none ∨ ∃ a n, e = some (i, a, n) ∧ 2 * x.at_ ≤ a ∧ a ≤ 2 * x.at_ + 2 := by
  unfold evW at h
  rcases List.mem_append.1 h with h | h
  · split at h
    · left; simpa using h
    · simp at h
  · obtain ⟨c, _, hc⟩ := List.mem_flatMap.1 h
    unfold evL at hc
    split at hc
    · left; simpa using hc
    · obtain ⟨n, hn, rfl⟩ := List.mem_map.1 hc
      obtain ⟨n0, n1, n2⟩ := crL_mem c n hn
      right
      refine ⟨_, _, rfl, ?_, ?_⟩ <;> (unfold mkAt mkMid; split <;> omega)
theorem evW_ok {p : LW} (h : lwOk p) : ∀ e ∈ evW p.1 p.2, evOk e = true := fun e he => by
  rcases evW_mem h.1 he with rfl | ⟨a, n, rfl, h1, h2⟩
  · rfl
  · have := h.1; have := h.2; unfold evOk; simp; omega
theorem evW_apart {p q : LW} (hp : lwOk p) (hq : lwOk q) (h : lwApart p q) : ∀ e ∈ evW p.1 p.2, ∀ f ∈ evW q.1 q.2, evApart e f := fun e he f hf => by
  rcases evW_mem hp.1 he with rfl | ⟨a, n, rfl, h1, h2⟩
  · exact trivial
  · rcases evW_mem hq.1 hf with rfl | ⟨b, m, rfl, k1, k2⟩
    · exact trivial
    · show a + 2 ≤ b ∨ b + 2 ≤ a
      unfold lwApart at h; omega
inductive Reo : List LW → List LW → Prop
  | nil : Reo [] []
  | cons {A B W : List LW} {x : LW} : (∀ y ∈ A, lwApart y x) → Reo (A ++ B) W → Reo (A ++ x :: B) (x :: W)
theorem Reo.alike {V W : List LW} (h : Reo V W) : ∀ s : St, Gd s.l → (∀ p ∈ V, lwOk p) → Alk (s.run (evs V)) (s.run (evs W)) := by
  induction h with
  | nil => intro s _ _; exact Alk.refl _
  | @cons A B W x hA _ ih =>
    intro s hs hV
    have hx : lwOk x := hV x (by simp)
    have hA2 : ∀ p ∈ A, lwOk p := fun p hp => hV p (by simp [hp])
    have hAB : ∀ p ∈ A ++ B, lwOk p := fun p hp => hV p (by
      rcases List.mem_append.1 hp with hp | hp
      · simp [hp]
      · simp [hp])
    have e1 : s.run (evs (A ++ x :: B)) = ((s.run (evs A)).run (evW x.1 x.2)).run (evs B) := by
      unfold evs; rw [List.flatMap_append, List.flatMap_cons, St.run_app, St.run_app]
    have e2 : s.run (evs (x :: W)) = (s.run (evW x.1 x.2)).run (evs W) := by unfold evs; rw [List.flatMap_cons, St.run_app]
    have e3 : (s.run (evW x.1 x.2)).run (evs (A ++ B)) = ((s.run (evW x.1 x.2)).run (evs A)).run (evs B) := by unfold evs; rw [List.flatMap_append, St.run_app]
    have hAe : ∀ e ∈ evs A, evOk e = true ∧ ∀ f ∈ evW x.1 x.2, evApart e f := fun e he => by
      obtain ⟨p, hp, he⟩ := List.mem_flatMap.1 he
      exact ⟨evW_ok (hA2 p hp) e he, fun f hf => evW_apart (hA2 p hp) hx (hA p hp) e he f hf⟩
    have sw := run_swap hs (evW_ok hx) (fun e he => (hAe e he).1) (fun f hf e he => (hAe e he).2 f hf)
    rw [e1, e2]
    refine (sw.run (evs B)).trans ?_
    rw [← e3]
    exact ih _ (hs.run (evW_ok hx)) hAB
end Go.Proofs.Ytdimfbmbomgiaaa
/-
  Plain law: what the document's Order allows is an order that keeps those that touch; the cloths of both sheets.
-/
namespace Go.Proofs.Ytdimfbmbomgiaaa
open Go.RowKit
def touchB (x y : Wk) : Bool := decide (x.at_ - y.at_ ≤ 1) && decide (y.at_ - x.at_ ≤ 1)
def wk0 : Wk := ⟨0, 0, ⟨#[]⟩⟩
def wAt (ws : List Wk) (a : Nat) : Wk := ws.getD a wk0
theorem wAt_get {ws : List Wk} {a : Nat} {x : Wk} (h : ws[a]? = some x) : wAt ws a = x := by unfold wAt; rw [List.getD_eq_getElem?_getD, h]; rfl
/-- among the first k of the works before b, each that touches it is done -/
def befTo (ws : List Wk) (done : List Int) (b k : Nat) : Bool := (List.range k).all (fun a => !(touchB (wAt ws a) (wAt ws b) && !done.contains (a : Int)))
def ordI (ws : List Wk) (order : List Int) (i : Nat) : Bool := decide (0 ≤ order.getD i 0) && decide (order.getD i 0 < (ws.length : Int)) && !(order.take i).contains (order.getD i 0) && befTo ws (order.take i) (order.getD i 0).toNat (order.getD i 0).toNat
def ordTo (ws : List Wk) (order : List Int) (k : Nat) : Bool := (List.range k).all (ordI ws order)
def ordB (ws : List Wk) (order : List Int) : Bool := (order.length == ws.length) && ordTo ws order order.length
theorem befTo_succ (ws : List Wk) (done : List Int) (b k : Nat) : befTo ws done b (k + 1) = (befTo ws done b k && !(touchB (wAt ws k) (wAt ws b) && !done.contains (k : Int))) := by
  unfold befTo; rw [List.range_succ, List.all_append]; simp
theorem ordTo_succ (ws : List Wk) (order : List Int) (k : Nat) : ordTo ws order (k + 1) = (ordTo ws order k && ordI ws order k) := by
  unfold ordTo; rw [List.range_succ, List.all_append]; simp
theorem ordTo_no {ws : List Wk} {order : List Int} {k n : Nat} (h : ordI ws order k = false) (hk : k < n) : ordTo ws order n = false := by
  unfold ordTo
  rw [List.all_eq_false]
  exact ⟨k, List.mem_range.2 hk, by rw [h]; simp⟩
/-- labelled works -/
def labN (ws : List Wk) (a : Nat) : LW := ((a : Int), wAt ws a)
def labI (ws : List Wk) (b : Int) : LW := (b, wAt ws b.toNat)
theorem ord_reo_from {ws : List Wk} {order : List Int} (hok : ordTo ws order order.length = true) : ∀ (m i : Nat) (rem : List Nat), i + m = order.length → rem.length = m → rem.Pairwise (· < ·) → (∀ a, a ∈ rem ↔ a < ws.length ∧ (order.take i).contains (a : Int) = false) → Reo (rem.map (labN ws)) ((order.drop i).map (labI ws))
  | 0, i, rem, hi, hl, _, _ => by
    obtain rfl : rem = [] := List.length_eq_zero_iff.1 hl
    rw [List.drop_of_length_le (by omega)]
    exact Reo.nil
  | m + 1, i, rem, hi, hl, hs, hm => by
    obtain ⟨b, hb⟩ := get_of_lt (l := order) (k := i) (by omega)
    have hI : ordI ws order i = true := by
      unfold ordTo at hok
      exact List.all_eq_true.1 hok i (List.mem_range.2 (by omega))
    have hD : order.getD i 0 = b := by rw [List.getD_eq_getElem?_getD, hb]; rfl
    unfold ordI at hI
    rw [hD] at hI
    simp only [Bool.and_eq_true, decide_eq_true_eq, Bool.not_eq_true'] at hI
    obtain ⟨⟨⟨b0, bn⟩, bnew⟩, bbef⟩ := hI
    obtain ⟨c, rfl⟩ := Int.eq_ofNat_of_zero_le b0
    have hc : ((c : Nat) : Int).toNat = c := by simp
    rw [hc] at bbef
    have hmem : c ∈ rem := (hm c).2 ⟨by omega, bnew⟩
    obtain ⟨A, B, rfl⟩ := List.append_of_mem hmem
    have hdrop : order.drop i = (c : Int) :: order.drop (i + 1) := by
      rw [List.drop_eq_getElem_cons (by omega)]
      rw [List.getElem?_eq_getElem (by omega)] at hb
      injection hb with hb
      rw [hb]
    rw [hdrop, List.map_cons, List.map_append, List.map_cons]
    have hsA := List.pairwise_append.1 hs
    have e : labI ws (c : Int) = labN ws c := by unfold labI labN; rw [hc]
    rw [e]
    refine Reo.cons ?_ ?_
    · intro y hy
      obtain ⟨a, ha, rfl⟩ := List.mem_map.1 hy
      have hac : a < c := hsA.2.2 a ha c (by simp)
      have hnot := ((hm a).1 (by simp [ha])).2
      have h1 := List.all_eq_true.1 bbef a (List.mem_range.2 hac)
      rw [hnot] at h1
      have h2 : touchB (wAt ws a) (wAt ws c) = false := by simpa using h1
      unfold touchB at h2
      show (wAt ws a).at_ + 2 ≤ (wAt ws c).at_ ∨ (wAt ws c).at_ + 2 ≤ (wAt ws a).at_
      rcases Bool.and_eq_false_iff.1 h2 with h | h
      · have := of_decide_eq_false h; omega
      · have := of_decide_eq_false h; omega
    · rw [← List.map_append]
      have hsB := List.pairwise_cons.1 hsA.2.1
      refine ord_reo_from hok m (i + 1) (A ++ B) (by omega) (by simp at hl ⊢; omega) ?_ ?_
      · exact List.pairwise_append.2 ⟨hsA.1, hsB.2, fun a ha b hb => hsA.2.2 a ha b (by simp [hb])⟩
      · intro a
        have ht : (order.take (i + 1)).contains (a : Int) = ((order.take i).contains (a : Int) || ((a : Int) == (c : Int))) := by
          rw [List.take_add_one, hb, Bool.eq_iff_iff]; simp
        rw [ht]
        have h1 := hm a
        constructor
        · intro ha
          have hne : a ≠ c := by
            rcases List.mem_append.1 ha with ha | ha
            · have := hsA.2.2 a ha c (by simp); omega
            · have := hsB.1 a ha; omega
          have h2 := h1.1 (by rcases List.mem_append.1 ha with ha | ha <;> simp [ha])
          refine ⟨h2.1, ?_⟩
          rw [h2.2]
          simp; omega
        · rintro ⟨h2, h3⟩
          simp only [Bool.or_eq_false_iff, beq_eq_false_iff_ne, ne_eq] at h3
          have h4 := h1.2 ⟨h2, h3.1⟩
          rcases List.mem_append.1 h4 with h4 | h4
          · simp [h4]
          · rcases List.mem_cons.1 h4 with h4 | h4
            · exact absurd (by rw [h4]) h3.2
            · simp [h4]
theorem ord_reo {ws : List Wk} {order : List Int} (h : ordB ws order = true) : Reo ((List.range ws.length).map (labN ws)) (order.map (labI ws)) := by
  unfold ordB at h
  obtain ⟨h1, h2⟩ := (Bool.and_eq_true_iff).1 h
  have hl : order.length = ws.length := by simpa using h1
  have := ord_reo_from h2 order.length 0 (List.range ws.length) (by omega) (by simp [hl]) List.pairwise_lt_range (fun a => by simp)
  rwa [List.drop_zero] at this
/-! ### the cloths -/
def St0 : St := ⟨lineL 48, [], 0⟩
theorem gd0 : Gd St0.l := ⟨lineL_len 48, fun i j v h1 h2 => by
  have k1 := lt_of_get h1
  have k2 := lt_of_get h2
  have hl : St0.l.length = 48 := lineL_len 48
  rw [hl] at k1 k2
  have h1 : (lineL 48)[i]? = some v := h1
  have h2 : (lineL 48)[j]? = some v := h2
  rw [lineL_get k1] at h1
  rw [lineL_get k2] at h2
  injection h1 with h1; injection h2 with h2; omega⟩
theorem works_abs {ws : List Wk} : ∀ k, k ≤ ws.length → (Mk.works ws k).abs = St0.run (evs ((List.range k).map (labN ws)))
  | 0, _ => rfl
  | k + 1, hk => by
    obtain ⟨x, hx⟩ := get_of_lt (l := ws) (k := k) (by omega)
    rw [Mk.works_succ hx, Mk.abs_work, works_abs k (by omega), List.range_succ, List.map_append]
    have e : evs ((List.range k).map (labN ws) ++ [k].map (labN ws)) = evs ((List.range k).map (labN ws)) ++ evW (k : Int) x := by
      unfold evs; rw [List.flatMap_append]; simp [labN, wAt_get hx]
    rw [e, St.run_app]
/-! ### other numbers for the works -/
def relab (f : Int → Int) (x : Q4) : Q4 := { x with a := f x.a }
def evRe (f : Int → Int) : Ev → Ev
  | none => none
  | some (i, a, n) => some (f i, a, n)
def St.re (f : Int → Int) (s : St) : St := { s with xs := s.xs.map (relab f) }
theorem evX_re (f : Int → Int) (l : List Int) (i a : Int) (n : Bool) : evX l (f i) a n = relab f (evX l i a n) := by unfold evX relab; cases n <;> rfl
theorem step_re (f : Int → Int) (s : St) (e : Ev) : (s.re f).step (evRe f e) = (s.step e).re f := by
  cases e with
  | none => rfl
  | some q =>
    obtain ⟨i, a, n⟩ := q
    show St.mk (swapL s.l (evX s.l (f i) a n)) (s.xs.map (relab f) ++ [evX s.l (f i) a n]) s.np = St.mk (swapL s.l (evX s.l i a n)) ((s.xs ++ [evX s.l i a n]).map (relab f)) s.np
    rw [evX_re, List.map_append]
    rfl
theorem run_re (f : Int → Int) (es : List Ev) : ∀ s : St, (s.re f).run (es.map (evRe f)) = (s.run es).re f := by
  induction es with
  | nil => intro s; rfl
  | cons e es ih => intro s; show ((s.re f).step (evRe f e)).run (es.map (evRe f)) = _; rw [step_re, ih]; rfl
theorem evW_re (f : Int → Int) (i : Int) (x : Wk) : evW (f i) x = (evW i x).map (evRe f) := by
  have h1 : ∀ c, evL (f i) (mkMid x) c = (evL i (mkMid x) c).map (evRe f) := fun c => by
    unfold evL
    split
    · rfl
    · rw [List.map_map]; rfl
  unfold evW
  rw [List.map_append, List.map_flatMap]
  congr 1
  · split <;> rfl
  · congr 1
    funext c
    exact h1 c
theorem evs_re (f : Int → Int) (W : List LW) : evs (W.map (fun p => (f p.1, p.2))) = (evs W).map (evRe f) := by
  unfold evs
  rw [List.flatMap_map, List.map_flatMap]
  congr 1
  funext p
  exact evW_re f p.1 p.2
/-- the number of a work in a list of numbers -/
def labW (ids : List Int) (w : Int) : Int := if 0 ≤ w ∧ w < (ids.length : Int) then ids.getD w.toNat 0 else -1
def reW (ws : List Wk) (order : List Int) : List Wk := order.map (fun b => wAt ws b.toNat)
theorem labW_at {ids : List Int} {k : Nat} (h : k < ids.length) : labW ids (k : Int) = ids.getD k 0 := by
  unfold labW; rw [if_pos (by omega)]; simp
theorem map_range_getD {ids : List Int} : (List.range ids.length).map (fun k => ids.getD k 0) = ids := by
  apply List.ext_getElem?
  intro k
  by_cases h : k < ids.length
  · rw [List.getElem?_map, List.getElem?_range h, List.getElem?_eq_getElem h]
    simp [List.getD_eq_getElem?_getD, List.getElem?_eq_getElem h]
  · rw [List.getElem?_eq_none (by simpa using h), List.getElem?_eq_none (by omega)]
theorem any_alike {ws : List Wk} {order : List Int} (h : ordB ws order = true) (hw : ∀ x ∈ ws, 0 ≤ x.at_ ∧ x.at_ ≤ 22) : Alk (Mk.works ws ws.length).abs ((Mk.works (reW ws order) order.length).abs.re (labW order)) := by
  have hl : (reW ws order).length = order.length := by unfold reW; simp
  rw [works_abs _ (Nat.le_refl _), works_abs _ (Nat.le_of_eq hl.symm), ← run_re, ← evs_re]
  have e1 : (((List.range order.length).map (labN (reW ws order))).map (fun p => (labW order p.1, p.2))) = order.map (labI ws) := by
    conv => rhs; rw [← map_range_getD (ids := order)]
    rw [List.map_map, List.map_map]
    apply List.map_congr_left
    intro k hk
    have hk' := List.mem_range.1 hk
    show (labW order (k : Int), wAt (reW ws order) k) = labI ws (order.getD k 0)
    rw [labW_at hk']
    unfold labI
    have e : wAt (reW ws order) k = wAt ws (order.getD k 0).toNat := by
      refine wAt_get ?_
      unfold reW
      rw [List.getElem?_map, List.getElem?_eq_getElem hk']
      simp [List.getD_eq_getElem?_getD, List.getElem?_eq_getElem hk']
    rw [e]
  rw [e1]
  refine (ord_reo h).alike St0 gd0 ?_
  intro p hp
  obtain ⟨a, ha, rfl⟩ := List.mem_map.1 hp
  have ha' := List.mem_range.1 ha
  obtain ⟨x, hx⟩ := get_of_lt (l := ws) (k := a) ha'
  show 0 ≤ (wAt ws a).at_ ∧ (wAt ws a).at_ ≤ 22
  rw [wAt_get hx]
  exact hw x (mem_of_get hx)
/-! ### the numbers of the works in a made cloth -/
theorem Mk.crosses_lab (s : Mk) (i : Int) (mid : Nat) (ns : List Int) : ∀ k, ∀ x ∈ (s.crosses i mid ns k).xs, x ∈ s.xs ∨ x.a = i
  | 0, x, h => .inl h
  | k + 1, x, h => by
    unfold Mk.crosses at h
    split at h
    · rcases List.mem_append.1 (show x ∈ (s.crosses i mid ns k).xs ++ [_] from h) with h | h
      · exact Mk.crosses_lab s i mid ns k x h
      · right
        have e : x = mkX (s.crosses i mid ns k).l i mid ‹Int› := by simpa using h
        rw [e]; unfold mkX; split <;> rfl
    · exact Mk.crosses_lab s i mid ns k x h
theorem Mk.letters_lab (s : Mk) (i : Int) (mid : Nat) (bs : List UInt8) : ∀ k, ∀ x ∈ (s.letters i mid bs k).xs, x ∈ s.xs ∨ x.a = i
  | 0, x, h => .inl h
  | k + 1, x, h => by
    unfold Mk.letters at h
    split at h
    · unfold Mk.letter at h
      split at h
      · exact Mk.letters_lab s i mid bs k x h
      · rcases Mk.crosses_lab _ i mid _ _ x h with h | h
        · exact Mk.letters_lab s i mid bs k x h
        · exact .inr h
    · exact Mk.letters_lab s i mid bs k x h
theorem Mk.works_lab (ws : List Wk) : ∀ k, ∀ x ∈ (Mk.works ws k).xs, 0 ≤ x.a ∧ x.a < (k : Int)
  | 0, x, h => by simp [Mk.works] at h
  | k + 1, x, h => by
    have ih := Mk.works_lab ws k x
    unfold Mk.works at h
    split at h
    · unfold Mk.work at h
      rcases Mk.letters_lab _ _ _ _ _ x h with h | h
      · have h2 : x ∈ (Mk.works ws k).xs := by
          split at h
          · exact h
          · exact h
        have := ih h2; omega
      · rw [h]; omega
    · have := ih h; omega
theorem relab_own {ws : List Wk} {n : Nat} : ((Mk.works ws n).xs.map (relab (labW (lineL n)))) = (Mk.works ws n).xs := by
  conv => rhs; rw [← List.map_id (Mk.works ws n).xs]
  apply List.map_congr_left
  intro x hx
  obtain ⟨h0, h1⟩ := Mk.works_lab ws n x hx
  show relab (labW (lineL n)) x = x
  have e : labW (lineL n) x.a = x.a := by
    obtain ⟨a, ha⟩ := Int.eq_ofNat_of_zero_le h0
    rw [ha, labW_at (by rw [lineL_len]; omega), List.getD_eq_getElem?_getD, lineL_get (by omega)]; rfl
  unfold relab
  rw [e]
/-- both histories are one -/
theorem any_hist {ws : List Wk} {order : List Int} (h : ordB ws order = true) (hw : ∀ x ∈ ws, 0 ≤ x.at_ ∧ x.at_ ≤ 22) (th : Int) : hist th ((Mk.works ws ws.length).xs.map (relab (labW (lineL ws.length)))) = hist th ((Mk.works (reW ws order) order.length).xs.map (relab (labW order))) := by
  rw [relab_own]
  exact (any_alike h hw).h th
theorem hist_lab {xs : List Q4} (h : ∀ x ∈ xs, 0 ≤ x.a) (th : Int) : ∀ y ∈ hist th xs, 0 ≤ y.1 := fun y hy => by
  unfold hist at hy
  obtain ⟨x, hx, hy⟩ := List.mem_flatMap.1 hy
  have hx0 := h x hx
  rcases List.mem_append.1 hy with hy | hy
  · split at hy
    · obtain rfl : y = (x.a, x.d, true) := by simpa using hy
      exact hx0
    · simp at hy
  · split at hy
    · obtain rfl : y = (x.a, x.c, false) := by simpa using hy
      exact hx0
    · simp at hy
theorem reW_ok {p : Int} {ws : List Wk} {order : List Int} (hok : SOk p ws) (h : ordB ws order = true) : SOk p (reW ws order) := by
  unfold ordB at h
  obtain ⟨h1, h2⟩ := (Bool.and_eq_true_iff).1 h
  have hl : order.length = ws.length := by simpa using h1
  have hm : ∀ x ∈ reW ws order, x ∈ ws := fun x hx => by
    obtain ⟨b, hb, rfl⟩ := List.mem_map.1 hx
    obtain ⟨i, hi, rfl⟩ := List.mem_iff_getElem.1 hb
    have hI := List.all_eq_true.1 h2 i (List.mem_range.2 hi)
    unfold ordI at hI
    have hD : order.getD i 0 = order[i] := by rw [List.getD_eq_getElem?_getD, List.getElem?_eq_getElem hi]; rfl
    rw [hD] at hI
    simp only [Bool.and_eq_true, decide_eq_true_eq] at hI
    obtain ⟨x, hx⟩ := get_of_lt (l := ws) (k := (order[i]).toNat) (by omega)
    rw [wAt_get hx]
    exact mem_of_get hx
  exact ⟨hok.le, hok.ge, by unfold reW; rw [List.length_map, hl]; exact hok.len, fun x hx => hok.short x (hm x hx), fun x hx => hok.good x (hm x hx), fun x hx => hok.form x (hm x hx)⟩
end Go.Proofs.Ytdimfbmbomgiaaa
