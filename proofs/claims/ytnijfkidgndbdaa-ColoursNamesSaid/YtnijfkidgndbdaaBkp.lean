/-
  Plain law of chapter 21: what Least finds in what is seen; a thread dyed anew.
-/
import Derived.Test.YtnijfkidgndbdaaSha
namespace Go.Proofs.Ytnijfkidgndbdaa
open Go.RowKit
theorem shows_has {xs : List Q4} {x : Q4} {j : Nat} (h : xs[j]? = some x) : (j : Int) ∈ showsTo xs x.c xs.length := by
  have e : showsTo xs x.c (j + 1) = showsTo xs x.c j ++ [(j : Int)] := by rw [showsTo_succ h, if_pos rfl]
  obtain ⟨d, hd⟩ : ∃ d, xs.length = j + 1 + d := ⟨xs.length - (j + 1), by have := lt_of_get h; omega⟩
  obtain ⟨r, hr⟩ := showsTo_pre (xs := xs) (th := x.c) (k := j + 1) d
  rw [hd, hr, e]
  simp
theorem seen_of {xs : List Q4} {ds : List Int} {T : Nat} {k : Nat} {i : Int} (h : i ∈ showsTo xs (T : Int) k) : (overL xs ds).getD i.toNat 0 = ds.getD T 0 := by
  obtain ⟨j, x, rfl, _, hx, hc⟩ := showsTo_mem h
  rw [show ((j : Nat) : Int).toNat = j by simp, List.getD_eq_getElem?_getD, overL_get hx, hc]
  simp
theorem lead_of (xs : List Q4) (ds : List Int) (T k : Nat) : leadTo xs (overL xs ds) (T : Int) k 0 = if showsTo xs (T : Int) k = [] then 0 else ds.getD T 0 := by
  cases hl : showsTo xs (T : Int) k with
  | nil => rw [leadTo_nil hl]; simp
  | cons i r => rw [leadTo_cons hl, seen_of (show i ∈ showsTo xs (T : Int) k by rw [hl]; simp)]; simp
theorem agree_of (xs : List Q4) (ds : List Int) (T k : Nat) : agree xs (overL xs ds) (T : Int) k := fun i hi => by
  rw [seen_of hi, lead_of]
  rw [if_neg (by intro h; rw [h] at hi; cases hi)]
theorem least_of {Tn : Nat} {xs ps : List Q4} {ds : List Int} (h : chkE (Tn : Int) xs ps ds = 0) : leastE (Tn : Int) xs ps (overL xs ds) = 0 ∧ leastR (Tn : Int) xs ps (overL xs ds) = leastL (Tn : Int) xs (overL xs ds) := by
  obtain ⟨g1, g2, g3⟩ := chkE_ok h
  have hc : colOk (overL xs ds) = true := by
    unfold colOk
    rw [List.all_eq_true]
    intro y hy
    have := over_col h y hy
    unfold okD; simp; exact this
  have e : leastE (Tn : Int) xs ps (overL xs ds) = 0 := by
    unfold leastE
    rw [if_pos g1, if_pos ⟨by simp [overL], hc⟩, if_pos (leastOk_all (fun T _ => agree_of xs ds T _))]
  exact ⟨e, by unfold leastR; rw [if_pos e]⟩
theorem leastL_len (Tn : Nat) (xs : List Q4) (S : List Int) : (leastL (Tn : Int) xs S).length = Tn := by simp [leastL]
theorem leastL_get {Tn T : Nat} {xs : List Q4} {ds : List Int} (h : T < Tn) : (leastL (Tn : Int) xs (overL xs ds))[T]? = some (if showsTo xs (T : Int) xs.length = [] then 0 else ds.getD T 0) := by
  unfold leastL
  rw [show ((Tn : Nat) : Int).toNat = Tn by simp, List.getElem?_map]
  simp [h, lead_of]
theorem colOk_of {L : List Int} (h : ∀ y ∈ L, 0 ≤ y ∧ y < 16) : colOk L = true := by
  unfold colOk
  rw [List.all_eq_true]
  intro y hy
  have := h y hy
  unfold okD; simp; exact this
theorem colOk_mem {L : List Int} (h : colOk L = true) : ∀ y ∈ L, 0 ≤ y ∧ y < 16 := fun y hy => by
  have := (List.all_eq_true.1 h) y hy
  unfold okD at this
  simp at this
  exact this
theorem chkE_of {t : Int} {xs ps : List Q4} {D E : List Int} (h : chkE t xs ps D = 0) (hl : (E.length : Int) = t) (hc : colOk E = true) : chkE t xs ps E = 0 := by
  obtain ⟨g1, g2, g3⟩ := chkE_ok h
  unfold chkE
  rw [if_pos g1, if_pos ⟨hl, hc⟩]
theorem chk_least {Tn : Nat} {xs ps : List Q4} {ds : List Int} (h : chkE (Tn : Int) xs ps ds = 0) : chkE (Tn : Int) xs ps (leastL (Tn : Int) xs (overL xs ds)) = 0 := by
  obtain ⟨g1, g2, g3⟩ := chkE_ok h
  refine chkE_of h (by rw [leastL_len]) (colOk_of fun y hy => ?_)
  obtain ⟨T, hT⟩ := List.mem_iff_getElem?.1 hy
  have hTl : T < Tn := by have := lt_of_get hT; rwa [leastL_len] at this
  rw [leastL_get hTl] at hT
  injection hT with hT
  rw [← hT]
  split
  · omega
  · exact col_get g3 T (by omega)
theorem over_least {Tn : Nat} {xs ps : List Q4} {ds : List Int} (h : chkE (Tn : Int) xs ps ds = 0) : overL xs (leastL (Tn : Int) xs (overL xs ds)) = overL xs ds := by
  obtain ⟨g1, g2, g3⟩ := chkE_ok h
  apply List.ext_getElem?
  intro j
  cases hx : xs[j]? with
  | none =>
    have h1 : ∀ D, (overL xs D)[j]? = none := fun D => by unfold overL; rw [List.getElem?_map, hx]; rfl
    rw [h1, h1]
  | some x =>
    rw [overL_get hx, overL_get hx]
    obtain ⟨⟨⟨q1, q2⟩, _⟩, _⟩ := cross_ok g1 x (mem_of_get hx)
    obtain ⟨T, hT⟩ := Int.eq_ofNat_of_zero_le q1
    have hTn : T < Tn := by omega
    have hne : showsTo xs (T : Int) xs.length ≠ [] := by
      intro e
      have := shows_has hx
      rw [hT, e] at this; cases this
    rw [hT, show ((T : Nat) : Int).toNat = T by simp, List.getD_eq_getElem?_getD, leastL_get hTn, if_neg hne]; rfl
theorem same_of {t : Int} {xs ps : List Q4} {D E : List Int} (h : chkE t xs ps D = 0) (h' : chkE t xs ps E = 0) : sameE t xs ps D E = 0 ∧ sameV t xs ps D E = diffI (overL xs D) (overL xs E) xs.length := by
  have e : sameE t xs ps D E = 0 := by unfold sameE; rw [if_pos h, h']
  exact ⟨e, by unfold sameV; rw [if_pos e]⟩
theorem hid_mem {xs : List Q4} {v : Int} : ∀ {k : Nat}, v ∈ hidTo xs k ↔ ∃ T : Nat, v = (T : Int) ∧ T < k ∧ showsTo xs (T : Int) xs.length = []
  | 0 => by simp [hidTo]
  | k + 1 => by
    have ih := hid_mem (xs := xs) (v := v) (k := k)
    show v ∈ (if showsTo xs (k : Int) xs.length = [] then hidTo xs k ++ [(k : Int)] else hidTo xs k) ↔ _
    by_cases h : showsTo xs (k : Int) xs.length = []
    · rw [if_pos h, List.mem_append, ih]
      constructor
      · rintro (⟨T, h1, h2, h3⟩ | h1)
        · exact ⟨T, h1, by omega, h3⟩
        · simp at h1
          exact ⟨k, h1, by omega, h⟩
      · rintro ⟨T, h1, h2, h3⟩
        by_cases hT : T < k
        · exact .inl ⟨T, h1, hT, h3⟩
        · obtain rfl : T = k := by omega
          exact .inr (by simp [h1])
    · rw [if_neg h, ih]
      constructor
      · rintro ⟨T, h1, h2, h3⟩; exact ⟨T, h1, by omega, h3⟩
      · rintro ⟨T, h1, h2, h3⟩
        refine ⟨T, h1, ?_, h3⟩
        by_cases hT : T < k
        · exact hT
        · obtain rfl : T = k := by omega
          exact absurd h3 h
theorem chk_set {Tn tt : Nat} {xs ps : List Q4} {ds : List Int} {v : Int} (h : chkE (Tn : Int) xs ps ds = 0) (h0 : 0 ≤ v) (h1 : v < 16) : chkE (Tn : Int) xs ps (ds.set tt v) = 0 := by
  obtain ⟨g1, g2, g3⟩ := chkE_ok h
  refine chkE_of h (by rw [List.length_set]; exact g2) (colOk_of fun y hy => ?_)
  rcases List.mem_or_eq_of_mem_set hy with hy | rfl
  · exact colOk_mem g3 y hy
  · exact ⟨h0, h1⟩
theorem diffI_cases (x y : List Int) : ∀ n, (diffI x y n = -1 ∧ ∀ j, j < n → x[j]? = y[j]?) ∨ (0 ≤ diffI x y n ∧ ∃ j, j < n ∧ x[j]? ≠ y[j]?) := fun n => by
  by_cases h : ∀ j, j < n → x[j]? = y[j]?
  · exact .inl ⟨diffI_none h, h⟩
  · right
    have : ∃ k, diffTo x y n = some k := by
      cases hd : diffTo x y n with
      | some k => exact ⟨k, rfl⟩
      | none =>
        exfalso
        apply h
        intro j hj
        refine Classical.byContradiction fun hne => ?_
        -- the least such j
        have key : ∀ m, m ≤ n → diffTo x y m = none → ∀ j, j < m → x[j]? = y[j]? := by
          intro m
          induction m with
          | zero => intro _ _ j hj; omega
          | succ m ih =>
            intro hm hdm j hj
            have e : diffTo x y (m + 1) = (diffTo x y m).or (if x[m]? = y[m]? then none else some m) := rfl
            rw [e] at hdm
            cases hdm2 : diffTo x y m with
            | some k => rw [hdm2] at hdm; cases hdm
            | none =>
              rw [hdm2] at hdm
              by_cases hj' : j < m
              · exact ih (by omega) hdm2 j hj'
              · obtain rfl : j = m := by omega
                by_cases he : x[j]? = y[j]?
                · exact he
                · simp [he] at hdm
        exact hne (key n (Nat.le_refl _) hd j hj)
    obtain ⟨k, hk⟩ := this
    refine ⟨by unfold diffI; rw [hk]; simp, ?_⟩
    refine Classical.byContradiction fun hno => h fun j hj => Classical.byContradiction fun hne => hno ⟨j, hj, hne⟩
theorem diff_set {Tn tt : Nat} {xs ps : List Q4} {ds : List Int} {v old : Int} (h : chkE (Tn : Int) xs ps ds = 0) (ht : tt < Tn) (ho : ds[tt]? = some old) : decide (diffI (overL xs ds) (overL xs (ds.set tt v)) xs.length = -1) = (decide (showsTo xs (tt : Int) xs.length = []) || decide (v = old)) := by
  obtain ⟨g1, g2, g3⟩ := chkE_ok h
  rw [Bool.eq_iff_iff]
  simp only [decide_eq_true_eq, Bool.or_eq_true]
  rcases diffI_cases (overL xs ds) (overL xs (ds.set tt v)) xs.length with ⟨h1, h2⟩ | ⟨h1, j, hj, h2⟩
  · refine ⟨fun _ => ?_, fun _ => h1⟩
    refine Classical.byContradiction fun hno => ?_
    have hne : showsTo xs (tt : Int) xs.length ≠ [] := fun e => hno (.inl e)
    have hv : v ≠ old := fun e => hno (.inr e)
    obtain ⟨i, hi⟩ := List.exists_mem_of_ne_nil _ hne
    obtain ⟨j, x, rfl, hj, hx, hc⟩ := showsTo_mem hi
    have := h2 j hj
    rw [overL_get hx, overL_get hx, hc, show ((tt : Nat) : Int).toNat = tt by simp, List.getD_eq_getElem?_getD, List.getD_eq_getElem?_getD, ho, List.getElem?_set_self (by omega)] at this
    simp at this
    exact hv this.symm
  · refine ⟨fun e => by omega, fun hor => ?_⟩
    exfalso
    obtain ⟨x, hx⟩ := get_of_lt (l := xs) (k := j) hj
    rw [overL_get hx, overL_get hx] at h2
    obtain ⟨⟨⟨q1, q2⟩, _⟩, _⟩ := cross_ok g1 x (mem_of_get hx)
    obtain ⟨T, hT⟩ := Int.eq_ofNat_of_zero_le q1
    rw [hT, show ((T : Nat) : Int).toNat = T by simp, List.getD_eq_getElem?_getD, List.getD_eq_getElem?_getD] at h2
    by_cases hTt : T = tt
    · subst hTt
      rcases hor with hs | hv
      · have := shows_has hx
        rw [hT, hs] at this; cases this
      · rw [ho, List.getElem?_set_self (by omega), hv] at h2
        exact h2 rfl
    · rw [List.getElem?_set_ne (fun e => hTt e.symm)] at h2
      exact h2 rfl
end Go.Proofs.Ytnijfkidgndbdaa
