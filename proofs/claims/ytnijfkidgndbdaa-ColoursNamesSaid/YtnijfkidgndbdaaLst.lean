/-
  Plain law of chapter 21: the crossings at which a thread shows; the least dyes.
-/
import Derived.Test.YtnijfkidgndbdaaRan
namespace Go.Proofs.Ytnijfkidgndbdaa
open Go.RowKit
/-- the crossings before the k-th one at which a thread shows -/
def showsTo (xs : List Q4) (th : Int) : Nat → List Int
  | 0 => []
  | k + 1 => match xs[k]? with
    | some x => if x.c = th then showsTo xs th k ++ [(k : Int)] else showsTo xs th k
    | none => showsTo xs th k
theorem showsTo_succ {xs : List Q4} {th : Int} {k : Nat} {x : Q4} (h : xs[k]? = some x) : showsTo xs th (k + 1) = if x.c = th then showsTo xs th k ++ [(k : Int)] else showsTo xs th k := by
  show (match xs[k]? with | some x => if x.c = th then showsTo xs th k ++ [(k : Int)] else showsTo xs th k | none => showsTo xs th k) = _
  rw [h]
theorem showsTo_len (xs : List Q4) (th : Int) : ∀ k, (showsTo xs th k).length ≤ k
  | 0 => Nat.le_refl _
  | k + 1 => by
    have ih := showsTo_len xs th k
    unfold showsTo
    split
    · split
      · rw [List.length_append]; simp; exact ih
      · omega
    · omega
theorem showsTo_mem {xs : List Q4} {th i : Int} : ∀ {k : Nat}, i ∈ showsTo xs th k → ∃ (j : Nat) (x : Q4), i = (j : Int) ∧ j < k ∧ xs[j]? = some x ∧ x.c = th
  | 0, h => by cases h
  | k + 1, h => by
    cases hx : xs[k]? with
    | none =>
      have e : showsTo xs th (k + 1) = showsTo xs th k := by
        show (match xs[k]? with | some x => if x.c = th then showsTo xs th k ++ [(k : Int)] else showsTo xs th k | none => showsTo xs th k) = _
        rw [hx]
      rw [e] at h
      obtain ⟨j, x, h1, h2, h3⟩ := showsTo_mem h
      exact ⟨j, x, h1, by omega, h3⟩
    | some x =>
      rw [showsTo_succ hx] at h
      split at h
      · rename_i hc
        rcases List.mem_append.1 h with h | h
        · obtain ⟨j, x, h1, h2, h3⟩ := showsTo_mem h
          exact ⟨j, x, h1, by omega, h3⟩
        · simp at h
          exact ⟨k, x, h, by omega, hx, hc⟩
      · obtain ⟨j, x, h1, h2, h3⟩ := showsTo_mem h
        exact ⟨j, x, h1, by omega, h3⟩
theorem showsTo_pre {xs : List Q4} {th : Int} {k : Nat} : ∀ d, ∃ r, showsTo xs th (k + d) = showsTo xs th k ++ r
  | 0 => ⟨[], by simp⟩
  | d + 1 => by
    obtain ⟨r, hr⟩ := showsTo_pre (xs := xs) (th := th) (k := k) d
    cases hx : xs[k + d]? with
    | none =>
      refine ⟨r, ?_⟩
      show (match xs[k + d]? with | some x => if x.c = th then showsTo xs th (k + d) ++ [((k + d : Nat) : Int)] else showsTo xs th (k + d) | none => showsTo xs th (k + d)) = _
      rw [hx]; exact hr
    | some x =>
      have e : showsTo xs th (k + (d + 1)) = if x.c = th then showsTo xs th (k + d) ++ [((k + d : Nat) : Int)] else showsTo xs th (k + d) := showsTo_succ hx
      rw [e, hr]
      split
      · exact ⟨r ++ [((k + d : Nat) : Int)], by rw [List.append_assoc]⟩
      · exact ⟨r, rfl⟩
/-- the colour with which a thread is seen first -/
def leadTo (xs : List Q4) (S : List Int) (th : Int) (k : Nat) (z : Int) : Int := match showsTo xs th k with
  | [] => z
  | i :: _ => S.getD i.toNat 0
def agree (xs : List Q4) (S : List Int) (th : Int) (k : Nat) : Prop := ∀ i ∈ showsTo xs th k, S.getD i.toNat 0 = leadTo xs S th k 0
instance (xs : List Q4) (S : List Int) (th : Int) (k : Nat) : Decidable (agree xs S th k) := by unfold agree; infer_instance
def leastOk (t : Int) (xs : List Q4) (S : List Int) : Bool := (List.range t.toNat).all fun (T : Nat) => decide (agree xs S (T : Int) xs.length)
def leastL (t : Int) (xs : List Q4) (S : List Int) : List Int := (List.range t.toNat).map fun (T : Nat) => leadTo xs S (T : Int) xs.length 0
def leastE (t : Int) (xs ps : List Q4) (S : List Int) : Int := if ckE t xs ps = 0 then (if (S.length : Int) = xs.length ∧ colOk S = true then (if leastOk t xs S = true then 0 else 4) else 2) else ckE t xs ps
def leastR (t : Int) (xs ps : List Q4) (S : List Int) : List Int := if leastE t xs ps S = 0 then leastL t xs S else []
theorem leastOk_all {t : Int} {xs : List Q4} {S : List Int} (h : ∀ T : Nat, (T : Int) < t → agree xs S (T : Int) xs.length) : leastOk t xs S = true := by
  unfold leastOk
  rw [List.all_eq_true]
  intro T hT
  simp at hT
  exact decide_eq_true (h T (by omega))
theorem leastOk_not {t : Int} {xs : List Q4} {S : List Int} {T : Nat} (hT : (T : Int) < t) (h : ¬ agree xs S (T : Int) xs.length) : leastOk t xs S = false := by
  unfold leastOk
  rw [List.all_eq_false]
  exact ⟨T, by simp; omega, by simpa using h⟩
theorem leadTo_nil {xs : List Q4} {S : List Int} {th : Int} {k : Nat} {z : Int} (h : showsTo xs th k = []) : leadTo xs S th k z = z := by unfold leadTo; rw [h]
theorem leadTo_cons {xs : List Q4} {S : List Int} {th i : Int} {k : Nat} {z : Int} {r : List Int} (h : showsTo xs th k = i :: r) : leadTo xs S th k z = S.getD i.toNat 0 := by unfold leadTo; rw [h]
theorem leadTo_other {xs : List Q4} {S : List Int} {th : Int} {k : Nat} {z : Int} {x : Q4} (hx : xs[k]? = some x) (h : x.c ≠ th) : leadTo xs S th (k + 1) z = leadTo xs S th k z := by
  unfold leadTo; rw [showsTo_succ hx, if_neg h]
theorem agree_other {xs : List Q4} {S : List Int} {th : Int} {k : Nat} {x : Q4} (hx : xs[k]? = some x) (h : x.c ≠ th) (ha : agree xs S th k) : agree xs S th (k + 1) := by
  unfold agree at *
  rw [showsTo_succ hx, if_neg h, leadTo_other hx h]
  exact ha
/-- the thread that lies over: its first colour stays, or it is this one -/
theorem leadTo_same {xs : List Q4} {S : List Int} {k : Nat} {x : Q4} {s : Int} (hx : xs[k]? = some x) (hs : S[k]? = some s) {z : Int} (h : showsTo xs x.c k = [] ∨ leadTo xs S x.c k 0 = s) : leadTo xs S x.c (k + 1) z = s ∧ (agree xs S x.c k → agree xs S x.c (k + 1)) := by
  have hk : S.getD ((k : Nat) : Int).toNat 0 = s := by rw [show ((k : Nat) : Int).toNat = k by simp, List.getD_eq_getElem?_getD, hs]; rfl
  have e : showsTo xs x.c (k + 1) = showsTo xs x.c k ++ [(k : Int)] := by rw [showsTo_succ hx, if_pos rfl]
  cases hl : showsTo xs x.c k with
  | nil =>
    rw [hl] at e
    refine ⟨by rw [leadTo_cons e, hk], fun _ => ?_⟩
    unfold agree
    rw [e, leadTo_cons e]
    intro i hi
    simp at hi; rw [hi]
  | cons i r =>
    rw [hl] at e
    have h2 : leadTo xs S x.c k 0 = s := h.resolve_left (by rw [hl]; simp)
    rw [leadTo_cons hl] at h2
    refine ⟨by rw [leadTo_cons e]; exact h2, fun ha => ?_⟩
    unfold agree at *
    rw [e, leadTo_cons e]
    rw [hl, leadTo_cons hl] at ha
    intro j hj
    rcases List.mem_append.1 hj with hj | hj
    · exact ha j hj
    · simp at hj; rw [hj, hk, h2]
/-- two colours of one thread: it has none -/
theorem agree_no {xs : List Q4} {S : List Int} {k : Nat} {x : Q4} {s i : Int} {r : List Int} (hx : xs[k]? = some x) (hs : S[k]? = some s) (hl : showsTo xs x.c k = i :: r) (h : S.getD i.toNat 0 ≠ s) : ¬ agree xs S x.c xs.length := by
  have hk : S.getD ((k : Nat) : Int).toNat 0 = s := by rw [show ((k : Nat) : Int).toNat = k by simp, List.getD_eq_getElem?_getD, hs]; rfl
  have e : showsTo xs x.c (k + 1) = (i :: r) ++ [(k : Int)] := by rw [showsTo_succ hx, if_pos rfl, hl]
  obtain ⟨d, hd⟩ : ∃ d, xs.length = k + 1 + d := ⟨xs.length - (k + 1), by have := lt_of_get hx; omega⟩
  obtain ⟨r', hr⟩ := showsTo_pre (xs := xs) (th := x.c) (k := k + 1) d
  rw [← hd, e] at hr
  intro ha
  unfold agree at ha
  rw [hr, leadTo_cons (by rw [hr]; rfl)] at ha
  have := ha (k : Int) (by simp)
  rw [hk] at this
  exact h this.symm
end Go.Proofs.Ytnijfkidgndbdaa
