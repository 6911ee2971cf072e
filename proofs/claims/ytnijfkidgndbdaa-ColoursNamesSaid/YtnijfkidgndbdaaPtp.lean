/-
  Plain law of chapter 21: the runs part the positions; each colour's share; the marks of the threads' crossings.
-/
import Derived.Test.YtnijfkidgndbdaaRen
import Derived.Test.YtnijfkidgndbdaaBkp
namespace Go.Proofs.Ytnijfkidgndbdaa
open Go.RowKit
/-- what the runs of the first k colours are -/
structure RunsOk (a : List Int) (k : Nat) (L : List Rn) : Prop where
  none : L = [] → k = 0
  zero : ∀ r, L[0]? = some r → r.f = 0
  each : ∀ j r, L[j]? = some r → ∃ f m : Nat, r.f = (f : Int) ∧ r.m = (m : Int) ∧ 1 ≤ m ∧ f + m ≤ k ∧ (∀ p, f ≤ p → p < f + m → a[p]? = some r.c) ∧ (∀ r', L[j + 1]? = some r' → r'.f = ((f + m : Nat) : Int) ∧ r'.c ≠ r.c) ∧ (j + 1 = L.length → f + m = k)
theorem runs_ok {a : List Int} : ∀ {k : Nat}, k ≤ a.length → RunsOk a k (runsTo a k)
  | 0, _ => ⟨fun _ => rfl, (fun r h => by simp [runsTo] at h), (fun j r h => by simp [runsTo] at h)⟩
  | k + 1, hk => by
    have ih := runs_ok (a := a) (k := k) (by omega)
    obtain ⟨x, hx⟩ := get_of_lt (l := a) (k := k) (by omega)
    by_cases hc : k = 0 ∨ a[k]? ≠ a[k - 1]?
    · rw [runsTo_new hx hc]
      generalize runsTo a k = L at *
      refine ⟨fun h => by simp at h, fun r h => ?_, fun j r h => ?_⟩
      · cases L with
        | nil =>
          have := ih.none rfl
          simp at h
          rw [← h]; simp [this]
        | cons y L => simp at h; exact ih.zero r (by simpa using h)
      · by_cases hj : j < L.length
        · rw [List.getElem?_append_left hj] at h
          obtain ⟨f, m, e1, e2, e3, e4, e5, e6, e7⟩ := ih.each j r h
          refine ⟨f, m, e1, e2, e3, by omega, e5, fun r' h' => ?_, fun hl => by simp at hl; omega⟩
          by_cases hj' : j + 1 < L.length
          · rw [List.getElem?_append_left hj'] at h'
            exact e6 r' h'
          · have hjl : j + 1 = L.length := by omega
            rw [hjl, List.getElem?_append_right (Nat.le_refl _), Nat.sub_self] at h'
            simp at h'
            have hfm := e7 hjl
            rw [← h']
            refine ⟨by simp [hfm], fun hcx => ?_⟩
            rcases hc with h0 | hne
            · omega
            · apply hne
              rw [hx, e5 (k - 1) (by omega) (by omega)]
              simp at hcx
              rw [hcx]
        · have hjl : j = L.length := by
            have := lt_of_get h
            simp at this; omega
          subst hjl
          rw [List.getElem?_append_right (Nat.le_refl _), Nat.sub_self] at h
          simp at h
          rw [← h]
          refine ⟨k, 1, rfl, rfl, Nat.le_refl _, Nat.le_refl _, fun p h1 h2 => ?_, fun r' h' => ?_, fun _ => rfl⟩
          · obtain rfl : p = k := by omega
            exact hx
          · rw [List.getElem?_append_right (by omega)] at h'
            simp at h'
    · obtain ⟨L, r0, hL⟩ := runsTo_some (a := a) (k := k) (by omega)
      rw [runsTo_old hc hL]
      rw [hL] at ih
      have hxe : a[k]? = a[k - 1]? := Classical.byContradiction fun h => hc (.inr h)
      obtain ⟨f0, m0, g1, g2, g3, g4, g5, _, g7⟩ := ih.each L.length r0 (by simp)
      have g8 := g7 (by simp)
      refine ⟨fun h => by simp at h, fun r h => ?_, fun j r h => ?_⟩
      · cases L with
        | nil => simp at h; rw [← h]; exact ih.zero r0 rfl
        | cons y L => simp at h; exact ih.zero r (by simpa using h)
      · by_cases hj : j < L.length
        · rw [List.getElem?_append_left hj] at h
          obtain ⟨f, m, e1, e2, e3, e4, e5, e6, e7⟩ := ih.each j r (by rw [List.getElem?_append_left hj]; exact h)
          refine ⟨f, m, e1, e2, e3, by omega, e5, fun r' h' => ?_, fun hl => by simp at hl; omega⟩
          by_cases hj' : j + 1 < L.length
          · rw [List.getElem?_append_left hj'] at h'
            exact e6 r' (by rw [List.getElem?_append_left hj']; exact h')
          · have hjl : j + 1 = L.length := by omega
            rw [hjl, List.getElem?_append_right (Nat.le_refl _), Nat.sub_self] at h'
            simp at h'
            have := e6 r0 (by rw [hjl]; simp)
            rw [← h']
            exact this
        · have hjl : j = L.length := by
            have := lt_of_get h
            simp at this; omega
          subst hjl
          rw [List.getElem?_append_right (Nat.le_refl _), Nat.sub_self] at h
          simp at h
          rw [← h]
          refine ⟨f0, m0 + 1, g1, by simp [g2], by omega, by omega, fun p h1 h2 => ?_, fun r' h' => ?_, fun _ => by omega⟩
          · by_cases hp : p < f0 + m0
            · exact g5 p h1 hp
            · obtain rfl : p = k := by omega
              rw [hxe]
              exact g5 (p - 1) (by omega) (by omega)
          · rw [List.getElem?_append_right (by omega)] at h'
            simp at h'
/-- what is left of each colour's share behind the first p -/
def leftS (a : List Int) (n p : Nat) : List Int := (List.range 16).map fun c => (shareTo a n).getD c 0 - (shareTo a p).getD c 0
theorem leftS_len (a : List Int) (n p : Nat) : (leftS a n p).length = 16 := by simp [leftS]
theorem leftS_get {a : List Int} {n p c : Nat} (h : c < 16) : (leftS a n p)[c]? = some ((shareTo a n).getD c 0 - (shareTo a p).getD c 0) := by simp [leftS, h]
theorem leftS_zero (a : List Int) (n : Nat) : leftS a n 0 = shareTo a n := by
  apply List.ext_getElem?
  intro c
  by_cases h : c < 16
  · obtain ⟨y, hy⟩ := get_of_lt (l := shareTo a n) (k := c) (by rw [shareTo_len]; exact h)
    rw [leftS_get h, List.getD_eq_getElem?_getD, hy, List.getD_eq_getElem?_getD]
    have : (shareTo a 0)[c]? = some 0 := by show (List.replicate 16 (0 : Int))[c]? = _; rw [List.getElem?_replicate, if_pos h]
    rw [this]; simp
  · have e1 : (leftS a n 0)[c]? = none := by rw [List.getElem?_eq_none]; rw [leftS_len]; omega
    have e2 : (shareTo a n)[c]? = none := by rw [List.getElem?_eq_none]; rw [shareTo_len]; omega
    rw [e1, e2]
theorem leftS_end (a : List Int) (n c : Nat) (h : c < 16) : (leftS a n n)[c]? = some 0 := by rw [leftS_get h]; simp
theorem leftS_le {a : List Int} {n p : Nat} : ∀ v ∈ leftS a n p, -(p : Int) ≤ v ∧ v ≤ n := fun v hv => by
  obtain ⟨c, hc⟩ := List.mem_iff_getElem?.1 hv
  have h := lt_of_get hc
  rw [leftS_len] at h
  rw [leftS_get h] at hc
  injection hc with hc
  obtain ⟨y, hy⟩ := get_of_lt (l := shareTo a n) (k := c) (by rw [shareTo_len]; exact h)
  obtain ⟨z, hz⟩ := get_of_lt (l := shareTo a p) (k := c) (by rw [shareTo_len]; exact h)
  have h1 := shareTo_le a n y (mem_of_get hy)
  have h2 := shareTo_le a p z (mem_of_get hz)
  rw [List.getD_eq_getElem?_getD, List.getD_eq_getElem?_getD, hy, hz] at hc
  simp at hc
  omega
theorem leftS_succ {a : List Int} {n p c : Nat} {v : Int} (hc : c < 16) (hx : a[p]? = some (c : Int)) (hv : (leftS a n p)[c]? = some v) : leftS a n (p + 1) = (leftS a n p).set c (v - 1) := by
  obtain ⟨y, hy⟩ := get_of_lt (l := shareTo a p) (k := c) (by rw [shareTo_len]; exact hc)
  have hs := shareTo_succ hx hy
  rw [leftS_get hc] at hv
  injection hv with hv
  apply List.ext_getElem?
  intro i
  rw [List.getElem?_set, leftS_len]
  by_cases hi : i < 16
  · rw [leftS_get hi, leftS_get hi, hs]
    by_cases he : c = i
    · subst he
      rw [if_pos rfl, if_pos hc, List.getD_eq_getElem?_getD, List.getD_eq_getElem?_getD, List.getElem?_set_self (by rw [shareTo_len]; exact hc)]
      rw [← hv, List.getD_eq_getElem?_getD, List.getD_eq_getElem?_getD, hy]
      simp; omega
    · rw [if_neg he, List.getD_eq_getElem?_getD, List.getD_eq_getElem?_getD, List.getElem?_set_ne he, List.getD_eq_getElem?_getD]
  · have e1 : ∀ p, (leftS a n p)[i]? = none := fun p => by rw [List.getElem?_eq_none]; rw [leftS_len]; omega
    rw [e1, e1]
    have : ¬ c = i := by omega
    simp [this]
/-- a crossing's mark when the threads below T and the first l crossings of T have been marked -/
def markV (xs : List Q4) (T l p : Nat) : Int := match xs[p]? with
  | some x => if x.c < (T : Int) ∨ (p : Int) ∈ (showsTo xs (T : Int) xs.length).take l then 1 else 0
  | none => 0
def markL (xs : List Q4) (T l : Nat) : List Int := (List.range xs.length).map (markV xs T l)
theorem markL_len (xs : List Q4) (T l : Nat) : (markL xs T l).length = xs.length := by simp [markL]
theorem markL_get {xs : List Q4} {T l p : Nat} (h : p < xs.length) : (markL xs T l)[p]? = some (markV xs T l p) := by simp [markL, h]
theorem markV_of {xs : List Q4} {T l p : Nat} {x : Q4} (h : xs[p]? = some x) : markV xs T l p = if x.c < (T : Int) ∨ (p : Int) ∈ (showsTo xs (T : Int) xs.length).take l then 1 else 0 := by unfold markV; rw [h]
theorem markL_ext {xs : List Q4} {T l T' l' : Nat} (h : ∀ p, p < xs.length → markV xs T l p = markV xs T' l' p) : markL xs T l = markL xs T' l' := by
  unfold markL
  apply List.map_congr_left
  intro p hp
  exact h p (by simpa using hp)
theorem markL_zero {xs : List Q4} (h : ∀ x ∈ xs, 0 ≤ x.c) : markL xs 0 0 = List.replicate xs.length 0 := by
  apply List.ext_getElem?
  intro p
  rw [List.getElem?_replicate]
  by_cases hp : p < xs.length
  · obtain ⟨x, hx⟩ := get_of_lt hp
    have := h x (mem_of_get hx)
    rw [markL_get hp, markV_of hx, if_pos hp, if_neg (by simp; omega)]
  · rw [if_neg hp, List.getElem?_eq_none (by rw [markL_len]; omega)]
theorem markL_next (xs : List Q4) (T : Nat) {l : Nat} (hl : (showsTo xs (T : Int) xs.length).length ≤ l) : markL xs T l = markL xs (T + 1) 0 := markL_ext fun p hp => by
  obtain ⟨x, hx⟩ := get_of_lt hp
  rw [markV_of hx, markV_of hx, List.take_of_length_le hl]
  congr 1
  simp only [List.take_zero, List.not_mem_nil, or_false, eq_iff_iff]
  constructor
  · rintro (h | h)
    · omega
    · obtain ⟨j, y, e, _, hy, hc⟩ := showsTo_mem h
      obtain rfl : p = j := by omega
      rw [hx] at hy; injection hy with hy
      rw [hy, hc]; omega
  · intro h
    by_cases hlt : x.c < (T : Int)
    · exact .inl hlt
    · right
      have he : x.c = (T : Int) := by omega
      rw [← he]; exact shows_has hx
theorem showsTo_nd {xs : List Q4} {th : Int} : ∀ k, (showsTo xs th k).Nodup
  | 0 => List.nodup_nil
  | k + 1 => by
    have ih := showsTo_nd (xs := xs) (th := th) k
    cases hx : xs[k]? with
    | none =>
      have : showsTo xs th (k + 1) = showsTo xs th k := by show (match xs[k]? with | some x => _ | none => _) = _; rw [hx]
      rw [this]; exact ih
    | some x =>
      rw [showsTo_succ hx]
      split
      · rw [List.nodup_append]
        refine ⟨ih, by simp, fun a ha b hb => ?_⟩
        simp at hb
        obtain ⟨j, y, e, hj, _, _⟩ := showsTo_mem ha
        omega
      · exact ih
theorem mark_at {xs : List Q4} {T l p : Nat} (h : (showsTo xs (T : Int) xs.length)[l]? = some (p : Int)) : ∃ x, xs[p]? = some x ∧ x.c = (T : Int) ∧ p < xs.length ∧ (markL xs T l)[p]? = some 0 ∧ markL xs T (l + 1) = (markL xs T l).set p 1 := by
  obtain ⟨j, x, e, hj, hx, hc⟩ := showsTo_mem (mem_of_get h)
  obtain rfl : p = j := by omega
  have hnd := showsTo_nd (xs := xs) (th := (T : Int)) xs.length
  have hni : (p : Int) ∉ (showsTo xs (T : Int) xs.length).take l := fun hm => by
    obtain ⟨i, hi⟩ := List.mem_iff_getElem?.1 hm
    have hil := lt_of_get hi
    rw [List.length_take] at hil
    rw [List.getElem?_take_of_lt (by omega)] at hi
    have := (List.getElem?_inj (i := i) (j := l) (by omega) hnd).1 (hi.trans h.symm)
    omega
  refine ⟨x, hx, hc, hj, ?_, ?_⟩
  · rw [markL_get hj, markV_of hx, if_neg]
    rintro (h1 | h1)
    · omega
    · exact hni h1
  · apply List.ext_getElem?
    intro i
    rw [List.getElem?_set, markL_len]
    by_cases hi : i < xs.length
    · obtain ⟨y, hy⟩ := get_of_lt hi
      rw [markL_get hi, markL_get hi, markV_of hy, markV_of hy, List.take_add_one, h]
      by_cases he : p = i
      · subst he; simp [hi]
      · have : ¬ (i : Int) = (p : Int) := by omega
        simp [he, this]
    · have e1 : ∀ l, (markL xs T l)[i]? = none := fun l => by rw [List.getElem?_eq_none]; rw [markL_len]; omega
      rw [e1, e1]
      have : ¬ p = i := by omega
      simp [this]
theorem mark_all {xs : List Q4} {Tn : Nat} (h : ∀ x ∈ xs, x.c < (Tn : Int)) {p : Nat} (hp : p < xs.length) : (markL xs Tn 0)[p]? = some 1 := by
  obtain ⟨x, hx⟩ := get_of_lt hp
  rw [markL_get hp, markV_of hx, if_pos (.inl (h x (mem_of_get hx)))]
end Go.Proofs.Ytnijfkidgndbdaa
