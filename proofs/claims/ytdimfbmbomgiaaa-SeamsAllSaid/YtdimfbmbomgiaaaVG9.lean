/-
  Plain law: the line that a sheet makes is a map of the places; the map of a sheet that is repeated; the joints of a seam.
-/
import Derived.Test.YtdimfbmbomgiaaaVG1
import Derived.Test.YtdimfbmbomgiaaaVG8
import Derived.Laws.Bits64b
import Derived.Laws.CopyOwn
import Derived.RowKit
namespace Go.Proofs.Ytdimfbmbomgiaaa
open Go.RowKit
def plE : Ev → Nat → Nat
  | none, i => i
  | some (_, a, _), i => tr a.toNat i
def plO (es : List Ev) (i : Nat) : Nat := es.foldr plE i
def plI (es : List Ev) (i : Nat) : Nat := es.foldl (fun j e => plE e j) i
theorem plE_plE (e : Ev) (i : Nat) : plE e (plE e i) = i := by
  cases e with
  | none => rfl
  | some q => exact tr_tr _ _
theorem plI_plO (es : List Ev) : ∀ i, plI es (plO es i) = i := by
  induction es with
  | nil => exact fun _ => rfl
  | cons e es ih =>
      intro i
      show plI es (plE e (plE e (plO es i))) = i
      rw [plE_plE, ih]
theorem plO_plI (es : List Ev) : ∀ i, plO es (plI es i) = i := by
  induction es with
  | nil => exact fun _ => rfl
  | cons e es ih =>
      intro i
      show plE e (plO es (plI es (plE e i))) = i
      rw [ih, plE_plE]
theorem plO_app (a b : List Ev) (i : Nat) : plO (a ++ b) i = plO a (plO b i) := by unfold plO; rw [List.foldr_append]
theorem run_pl (es : List Ev) : ∀ s : St, s.l.length = 48 → (∀ e ∈ es, evOk e = true) → ∀ i, (s.run es).l[i]? = s.l[plO es i]? := by
  induction es with
  | nil => exact fun _ _ _ _ => rfl
  | cons e es ih =>
    intro s hl hok i
    have hl' : (s.step e).l.length = 48 := by
      cases e with
      | none => exact hl
      | some q => obtain ⟨a, b, c⟩ := q; show (swapL _ _).length = 48; unfold swapL; rw [List.length_set, List.length_set, hl]
    show ((s.step e).run es).l[i]? = s.l[plE e (plO es i)]?
    rw [ih (s.step e) hl' (fun f hf => hok f (by simp [hf])) i]
    cases e with
    | none => rfl
    | some q =>
      obtain ⟨j, a, n⟩ := q
      obtain ⟨t, ht, h48⟩ := ev_place (hok (some (j, a, n)) List.mem_cons_self)
      obtain ⟨va, ha⟩ := get_of_lt (l := s.l) (k := t) (by rw [hl]; omega)
      obtain ⟨vb, hb⟩ := get_of_lt (l := s.l) (k := t + 1) (by rw [hl]; omega)
      show (swapL s.l (evX s.l j a n))[_]? = s.l[tr a.toNat _]?
      rw [(swap_evX ht ha hb).1, set2_get ha hb, ht, show ((t : Nat) : Int).toNat = t by simp]
theorem plO_re (f : Int → Int) (es : List Ev) (i : Nat) : plO (es.map (evRe f)) i = plO es i := by
  induction es with
  | nil => rfl
  | cons e es ih =>
    show plE (evRe f e) (plO (es.map (evRe f)) i) = plE e (plO es i)
    rw [ih]
    cases e with
    | none => rfl
    | some q => rfl
/-- the works' events, all with the number 0 -/
def evS (ws : List Wk) : List Ev := evs (ws.map (fun x => ((0 : Int), x)))
/-- which thread lies in a place behind a sheet -/
def plS (ws : List Wk) (i : Nat) : Nat := plO (evS ws) i
/-- in which place a thread lies -/
def inS (ws : List Wk) (i : Nat) : Nat := plI (evS ws) i
theorem evS_app (a b : List Wk) : evS (a ++ b) = evS a ++ evS b := by unfold evS evs; rw [List.map_append, List.flatMap_append]
theorem plS_app (a b : List Wk) (i : Nat) : plS (a ++ b) i = plS a (plS b i) := by unfold plS; rw [evS_app, plO_app]
theorem inS_app (a b : List Wk) (i : Nat) : inS (a ++ b) i = inS b (inS a i) := by unfold inS plI; rw [evS_app, List.foldl_append]
theorem inS_plS (ws : List Wk) (i : Nat) : inS ws (plS ws i) = i := plI_plO _ i
theorem plS_inS (ws : List Wk) (i : Nat) : plS ws (inS ws i) = i := plO_plI _ i
theorem lab_zero (ws : List Wk) : ((List.range ws.length).map (labN ws)).map (fun p => ((fun _ => (0 : Int)) p.1, p.2)) = ws.map (fun x => ((0 : Int), x)) := by
  rw [List.map_map]
  apply List.ext_getElem?
  intro i
  rw [List.getElem?_map, List.getElem?_map]
  by_cases h : i < ws.length
  · obtain ⟨x, hx⟩ := get_of_lt h
    rw [List.getElem?_range h, hx]
    simp [labN, wAt_get hx]
  · rw [List.getElem?_eq_none (by simpa using h), List.getElem?_eq_none (by omega)]; rfl
theorem works_at {p : Int} {ws : List Wk} (hok : SOk p ws) (i : Nat) : (Mk.works ws ws.length).l[i]? = (lineL 48)[plS ws i]? := by
  have h1 : (Mk.works ws ws.length).l = (St0.run (evs ((List.range ws.length).map (labN ws)))).l := congrArg St.l (works_abs ws.length (Nat.le_refl _))
  have hev : ∀ e ∈ evs ((List.range ws.length).map (labN ws)), evOk e = true := fun e he => by
    obtain ⟨q, hq, he⟩ := List.mem_flatMap.1 he
    obtain ⟨k, hk, rfl⟩ := List.mem_map.1 hq
    obtain ⟨x, hx⟩ := get_of_lt (List.mem_range.1 hk)
    have hb := bad_at (hok.good x (mem_of_get hx))
    refine evW_ok (p := labN ws k) ?_ e he
    unfold labN lwOk
    rw [wAt_get hx]
    have := hok.le
    exact ⟨hb.2.1, by have := hb.2.2.1; show x.at_ ≤ 22; omega⟩
  rw [h1, run_pl _ St0 (lineL_len 48) hev, ← plO_re (fun _ => 0), ← evs_re, lab_zero]
  rfl
theorem tr_lt2 {t i T : Nat} (ht : t + 1 < T) (hi : i < T) : tr t i < T := tr_lt ht hi
theorem evS_mem {p : Int} {ws : List Wk} (hok : SOk p ws) : ∀ e ∈ evS ws, ∀ i, i < (2 * p).toNat → plE e i < (2 * p).toNat := fun e he i hi => by
  obtain ⟨q, hq, he⟩ := List.mem_flatMap.1 he
  obtain ⟨x, hx, rfl⟩ := List.mem_map.1 hq
  have hb := bad_at (hok.good x hx)
  rcases evW_mem hb.2.1 he with rfl | ⟨a, n, rfl, h1, h2⟩
  · exact hi
  · have := hb.2.1; have := hb.2.2.1
    exact tr_lt (by omega) hi
theorem plO_lt {T : Nat} (es : List Ev) (h : ∀ e ∈ es, ∀ i, i < T → plE e i < T) {i : Nat} (hi : i < T) : plO es i < T := by
  induction es with
  | nil => exact hi
  | cons e es ih => exact h e (by simp) _ (ih (fun f hf => h f (by simp [hf])))
theorem plI_lt {T : Nat} (es : List Ev) (h : ∀ e ∈ es, ∀ i, i < T → plE e i < T) : ∀ {i : Nat}, i < T → plI es i < T := by
  induction es with
  | nil => exact fun h => h
  | cons e es ih => exact fun hi => ih (fun f hf => h f (by simp [hf])) (h e (by simp) _ hi)
theorem plS_lt {p : Int} {ws : List Wk} (hok : SOk p ws) {i : Nat} (hi : i < (2 * p).toNat) : plS ws i < (2 * p).toNat := plO_lt _ (evS_mem hok) hi
theorem inS_lt {p : Int} {ws : List Wk} (hok : SOk p ws) {i : Nat} (hi : i < (2 * p).toNat) : inS ws i < (2 * p).toNat := plI_lt _ (evS_mem hok) hi
/-- the threads in the places, as numbers -/
def endL (ws : List Wk) (T : Nat) : List Int := (List.range T).map (fun i => (plS ws i : Int))
theorem works_endL {p : Int} {ws : List Wk} (hok : SOk p ws) : (Mk.works ws ws.length).l.take (2 * p).toNat = endL ws (2 * p).toNat := by
  have h48 : (2 * p).toNat ≤ 48 := by have := hok.le; omega
  apply List.ext_getElem?
  intro i
  rw [List.getElem?_take]
  unfold endL
  rw [List.getElem?_map]
  by_cases h : i < (2 * p).toNat
  · rw [if_pos h, works_at hok, lineL_get (Nat.lt_of_lt_of_le (plS_lt hok h) h48), List.getElem?_range h]; rfl
  · rw [if_neg h, List.getElem?_eq_none (by simpa using h)]; rfl
theorem endL_len (ws : List Wk) (T : Nat) : (endL ws T).length = T := by simp [endL]
theorem endL_get (ws : List Wk) {T i : Nat} (h : i < T) : (endL ws T)[i]? = some (plS ws i : Int) := by simp [endL, h]
/-! ### the joints -/
/-- to the beginning of which thread the end of each one is joined -/
def nxS (ws : List Wk) (T h : Nat) (t : Nat) : Nat := (inS ws t + 2 * h) % T
theorem shift_inj {T c a b : Nat} (ha : a < T) (hb : b < T) (h : (a + c) % T = (b + c) % T) : a = b := by
  have h1 : (a + c) % T = (a + c % T) % T := by rw [Nat.add_mod, Nat.mod_eq_of_lt ha]
  have h2 : (b + c) % T = (b + c % T) % T := by rw [Nat.add_mod, Nat.mod_eq_of_lt hb]
  rw [h1, h2] at h
  have hc : c % T < T := Nat.mod_lt _ (by omega)
  generalize c % T = d at h hc
  rcases Nat.lt_or_ge (a + d) T with h3 | h3
  · rw [Nat.mod_eq_of_lt h3] at h
    rcases Nat.lt_or_ge (b + d) T with h4 | h4
    · rw [Nat.mod_eq_of_lt h4] at h; omega
    · rw [Nat.mod_eq_sub_mod h4, Nat.mod_eq_of_lt (by omega)] at h; omega
  · rw [Nat.mod_eq_sub_mod h3, Nat.mod_eq_of_lt (by omega)] at h
    rcases Nat.lt_or_ge (b + d) T with h4 | h4
    · rw [Nat.mod_eq_of_lt h4] at h; omega
    · rw [Nat.mod_eq_sub_mod h4, Nat.mod_eq_of_lt (by omega)] at h; omega
theorem nxS_perm {p : Int} {ws : List Wk} (hok : SOk p ws) (h : Nat) : Cyc.Perm (nxS ws (2 * p).toNat h) (2 * p).toNat where
  lt k hk := Nat.mod_lt _ (by omega)
  inj a b ha hb hab := by
    have h1 := shift_inj (inS_lt hok ha) (inS_lt hok hb) hab
    rw [← plS_inS ws a, ← plS_inS ws b, h1]
theorem nxS_zero {p : Int} {ws : List Wk} (hok : SOk p ws) {t : Nat} (ht : t < (2 * p).toNat) : nxS ws (2 * p).toNat 0 t = inS ws t := by
  unfold nxS
  rw [Nat.mul_zero, Nat.add_zero, Nat.mod_eq_of_lt (inS_lt hok ht)]
theorem it_nxS_zero {p : Int} {ws : List Wk} (hok : SOk p ws) : ∀ n t, t < (2 * p).toNat → Cyc.it (nxS ws (2 * p).toNat 0) n t = Cyc.it (inS ws) n t
  | 0, _, _ => rfl
  | n + 1, t, ht => by
    show Cyc.it _ n (nxS _ _ _ t) = Cyc.it _ n (inS ws t)
    rw [nxS_zero hok ht, it_nxS_zero hok n _ (inS_lt hok ht)]
/-! ### a sheet repeated -/
def repW (ws : List Wk) : Nat → List Wk
  | 0 => []
  | k + 1 => repW ws k ++ ws
theorem repW_len (ws : List Wk) : ∀ k, (repW ws k).length = k * ws.length
  | 0 => by simp [repW]
  | k + 1 => by unfold repW; rw [List.length_append, repW_len ws k, Nat.add_mul, Nat.one_mul]
theorem repW_mem {ws : List Wk} : ∀ {k : Nat} {x : Wk}, x ∈ repW ws k → x ∈ ws
  | 0, x, h => by simp [repW] at h
  | k + 1, x, h => by
    unfold repW at h
    rcases List.mem_append.1 h with h | h
    · exact repW_mem h
    · exact h
theorem repW_ok {p : Int} {ws : List Wk} (hok : SOk p ws) {k : Nat} (h : k * ws.length ≤ 400) : SOk p (repW ws k) :=
  ⟨hok.le, hok.ge, by rw [repW_len]; exact h, fun x hx => hok.short x (repW_mem hx), fun x hx => hok.good x (repW_mem hx), fun x hx => hok.form x (repW_mem hx)⟩
theorem inS_rep (ws : List Wk) (i : Nat) : ∀ k, inS (repW ws k) i = Cyc.it (inS ws) k i
  | 0 => rfl
  | k + 1 => by
    unfold repW
    rw [inS_app, inS_rep ws i k, Cyc.it_succ' (inS ws)]
theorem plS_rep (ws : List Wk) (i : Nat) : ∀ k, plS (repW ws k) i = Cyc.it (plS ws) k i
  | 0 => rfl
  | k + 1 => by
    unfold repW
    rw [plS_app, plS_rep ws _ k]; rfl
/-- repeated so often that each thread comes back: the ends are as the beginning -/
theorem rep_back {p : Int} {ws : List Wk} (hok : SOk p ws) {n : Nat} (h : ∀ t, t < (2 * p).toNat → Cyc.it (nxS ws (2 * p).toNat 0) n t = t) {i : Nat} (hi : i < (2 * p).toNat) : plS (repW ws n) i = i := by
  have h1 := h i hi
  rw [it_nxS_zero hok n i hi, ← inS_rep] at h1
  rw [← h1, plS_inS, h1]
theorem nxS_rep {p : Int} {ws : List Wk} (hok : SOk p ws) {k : Nat} (hk : k * ws.length ≤ 400) {t : Nat} (ht : t < (2 * p).toNat) : nxS (repW ws k) (2 * p).toNat 0 t = Cyc.it (nxS ws (2 * p).toNat 0) k t := by
  rw [nxS_zero (repW_ok hok hk) ht, inS_rep, it_nxS_zero hok k t ht]
/-- in another order the joints are the same -/
theorem nxS_reo {p : Int} {ws : List Wk} {order : List Int} (hok : SOk p ws) (h : ordB ws order = true) {s t : Nat} (ht : t < (2 * p).toNat) : nxS (reW ws order) (2 * p).toNat s t = nxS ws (2 * p).toNat s t := by
  have hok2 := reW_ok hok h
  have hw : ∀ x ∈ ws, 0 ≤ x.at_ ∧ x.at_ ≤ 22 := fun x hx => by
    have hb := bad_at (hok.good x hx)
    have := hok.le
    exact ⟨hb.2.1, by have := hb.2.2.1; omega⟩
  have hl : (reW ws order).length = order.length := by unfold reW; simp
  have hA := (any_alike h hw).l
  have hE : (Mk.works ws ws.length).l = (Mk.works (reW ws order) (reW ws order).length).l := by rw [hl]; exact hA
  have hP : ∀ i, i < (2 * p).toNat → plS ws i = plS (reW ws order) i := fun i hi => by
    have h1 := works_at hok i
    have h2 := works_at hok2 i
    have h48 : (2 * p).toNat ≤ 48 := by have := hok.le; omega
    rw [← hE, h1, lineL_get (Nat.lt_of_lt_of_le (plS_lt hok hi) h48), lineL_get (Nat.lt_of_lt_of_le (plS_lt hok2 hi) h48)] at h2
    injection h2 with h2
    omega
  unfold nxS
  have h3 : inS (reW ws order) t = inS ws t := by
    have h4 := hP (inS ws t) (inS_lt hok ht)
    rw [plS_inS] at h4
    conv => lhs; rw [h4]
    rw [inS_plS]
  rw [h3]
end Go.Proofs.Ytdimfbmbomgiaaa
/-
  Plain law of loops, second part: the period; the loops of a map that is done k times. No program here.
-/
namespace Go.Proofs.Ytdimfbmbomgiaaa
namespace Cyc
/-! ### sums over what is seen -/
def wsum (F : Nat → Nat) (s : Nat → Bool) : Nat → Nat
  | 0 => 0
  | T + 1 => wsum F s T + if s T then F T else 0
theorem wsum_out (F : Nat → Nat) (s : Nat → Bool) (k : Nat) : ∀ T, T ≤ k → wsum F (upd s k) T = wsum F s T
  | 0, _ => rfl
  | T + 1, h => by unfold wsum; rw [wsum_out F s k T (by omega), upd_ne s (by omega)]
theorem wsum_upd (F : Nat → Nat) (s : Nat → Bool) (k : Nat) (hs : s k = false) : ∀ T, k < T → wsum F (upd s k) T = wsum F s T + F k
  | T + 1, h => by
    unfold wsum
    by_cases e : T = k
    · subst e
      rw [upd_same, hs, wsum_out F s T T (Nat.le_refl _)]; simp
    · rw [upd_ne s e, wsum_upd F s k hs T (by omega)]; omega
theorem trail_sum {nx : Nat → Nat} {T : Nat} (hlt : ∀ k, k < T → nx k < T) (F : Nat → Nat) : ∀ f s k, k < T → wsum F (trail nx f s k).1 T = wsum F s T + ((trail nx f s k).2.map F).sum
  | 0, s, k, _ => by simp [trail]
  | f + 1, s, k, hk => by
    cases hs : s k with
    | true =>
      have e : trail nx (f + 1) s k = (s, []) := by simp [trail, hs]
      rw [e]; simp
    | false =>
      have e : trail nx (f + 1) s k = ((trail nx f (upd s k) (nx k)).1, k :: (trail nx f (upd s k) (nx k)).2) := by simp [trail, hs]
      rw [e]
      have ih := trail_sum hlt F f (upd s k) (nx k) (hlt k hk)
      rw [wsum_upd F s k hs T hk] at ih
      simp only [List.map_cons, List.sum_cons]
      omega
/-- the sum over some loops -/
def lsum (F : Nat → Nat) (ls : List (List Nat)) : Nat := (ls.map (fun l => (l.map F).sum)).sum
theorem lsum_app (F : Nat → Nat) (a b : List (List Nat)) : lsum F (a ++ b) = lsum F a + lsum F b := by unfold lsum; rw [List.map_append, List.sum_append]
theorem lsum_to {nx : Nat → Nat} {T : Nat} (hlt : ∀ k, k < T → nx k < T) (F : Nat → Nat) : ∀ j, j ≤ T → wsum F (loopsTo nx T j).1 T = lsum F (loopsTo nx T j).2
  | 0, _ => by
    show wsum F (fun _ => false) T = 0
    induction T with
    | zero => rfl
    | succ T ih =>
      have : ∀ T, wsum F (fun _ => false) T = 0 := fun T => by
        induction T with
        | zero => rfl
        | succ T ih => unfold wsum; rw [ih]; rfl
      exact this _
  | j + 1, hj => by
    have h1 := trail_sum hlt F T (loopsTo nx T j).1 j (by omega)
    rw [lsum_to hlt F j (by omega)] at h1
    show wsum F (trail nx T (loopsTo nx T j).1 j).1 T = lsum F (if (trail nx T (loopsTo nx T j).1 j).2 = [] then (loopsTo nx T j).2 else (loopsTo nx T j).2 ++ [(trail nx T (loopsTo nx T j).1 j).2])
    rw [h1]
    split
    · rename_i h; rw [h]; simp
    · rw [lsum_app]; simp [lsum]
theorem wsum_all (F : Nat → Nat) (s : Nat → Bool) : ∀ T, (∀ k, k < T → s k = true) → wsum F s T = wsum F (fun _ => true) T
  | 0, _ => rfl
  | T + 1, h => by unfold wsum; rw [wsum_all F s T (fun k hk => h k (by omega)), h T (by omega)]
/-- over all loops: the sum over all numbers below T -/
theorem lsum_all {nx : Nat → Nat} {T : Nat} (P : Perm nx T) (F : Nat → Nat) : lsum F (loops nx T) = wsum F (fun _ => true) T := by
  rw [← wsum_all F (loopsTo nx T T).1 T (loops_found P T (Nat.le_refl _)).all]
  exact (lsum_to P.lt F T (Nat.le_refl _)).symm
theorem wsum_one : ∀ T, wsum (fun _ => 1) (fun _ => true) T = T
  | 0 => rfl
  | T + 1 => by unfold wsum; rw [wsum_one T]; rfl
theorem sum_const (c : Nat) (l : List Nat) : (l.map (fun _ => c)).sum = l.length * c := by
  induction l with
  | nil => simp
  | cons x l ih => rw [List.map_cons, List.sum_cons, ih, List.length_cons, Nat.add_mul]; omega
theorem loops_total {nx : Nat → Nat} {T : Nat} (P : Perm nx T) : ((loops nx T).map List.length).sum = T := by
  have h := lsum_all P (fun _ => 1)
  rw [wsum_one] at h
  have e : (loops nx T).map (fun l => (l.map (fun _ => 1)).sum) = (loops nx T).map List.length := List.map_congr_left (fun l _ => by rw [sum_const, Nat.mul_one])
  unfold lsum at h
  rw [e] at h
  exact h
/-! ### the period -/
def perTo (ls : List (List Nat)) : Nat := ls.foldl (fun n l => Nat.lcm n l.length) 1
theorem perTo_app (ls : List (List Nat)) (l : List Nat) : perTo (ls ++ [l]) = Nat.lcm (perTo ls) l.length := by unfold perTo; rw [List.foldl_append]; rfl
theorem fold_dvd (n : Nat) : ∀ (ls : List (List Nat)) (a : Nat), ls.foldl (fun n l => Nat.lcm n l.length) a ∣ n ↔ (a ∣ n ∧ ∀ l ∈ ls, l.length ∣ n)
  | [], a => by simp
  | l :: ls, a => by
    rw [List.foldl_cons, fold_dvd n ls]
    constructor
    · rintro ⟨h1, h2⟩
      refine ⟨Nat.dvd_trans (Nat.dvd_lcm_left _ _) h1, fun x hx => ?_⟩
      rcases List.mem_cons.1 hx with rfl | hx
      · exact Nat.dvd_trans (Nat.dvd_lcm_right _ _) h1
      · exact h2 x hx
    · rintro ⟨h1, h2⟩
      exact ⟨Nat.lcm_dvd h1 (h2 l (by simp)), fun x hx => h2 x (by simp [hx])⟩
theorem per_dvd (ls : List (List Nat)) (n : Nat) : perTo ls ∣ n ↔ ∀ l ∈ ls, l.length ∣ n := by
  unfold perTo
  rw [fold_dvd]
  constructor
  · exact fun h => h.2
  · exact fun h => ⟨Nat.one_dvd n, h⟩
theorem per_mem {ls : List (List Nat)} {l : List Nat} (h : l ∈ ls) : l.length ∣ perTo ls := (per_dvd ls (perTo ls)).1 (Nat.dvd_refl _) l h
theorem lcm_le {a b : Nat} (ha : 0 < a) (hb : 0 < b) : Nat.lcm a b ≤ a * b := Nat.le_of_dvd (Nat.mul_pos ha hb) (Nat.lcm_dvd (Nat.dvd_mul_right _ _) (Nat.dvd_mul_left _ _))
theorem len_le_pow (n : Nat) : n ≤ 2 ^ n := Nat.le_of_lt Nat.lt_two_pow_self
theorem per_pos : ∀ (ls : List (List Nat)), (∀ l ∈ ls, 0 < l.length) → 0 < perTo ls := by
  have : ∀ (ls : List (List Nat)) (a : Nat), 0 < a → (∀ l ∈ ls, 0 < l.length) → 0 < ls.foldl (fun n l => Nat.lcm n l.length) a := by
    intro ls
    induction ls with
    | nil => exact fun a h _ => h
    | cons l ls ih => exact fun a ha h => ih _ (Nat.lcm_pos ha (h l (by simp))) (fun x hx => h x (by simp [hx]))
  exact fun ls h => this ls 1 (by omega) h
theorem per_le : ∀ (ls : List (List Nat)), (∀ l ∈ ls, 0 < l.length) → perTo ls ≤ 2 ^ (ls.map List.length).sum := by
  have : ∀ (ls : List (List Nat)) (a c : Nat), 0 < a → a ≤ 2 ^ c → (∀ l ∈ ls, 0 < l.length) → ls.foldl (fun n l => Nat.lcm n l.length) a ≤ 2 ^ (c + (ls.map List.length).sum) := by
    intro ls
    induction ls with
    | nil => exact fun a c _ h _ => by simpa using h
    | cons l ls ih =>
      intro a c ha hc h
      have hl := h l (by simp)
      have h1 : Nat.lcm a l.length ≤ 2 ^ (c + l.length) := by
        rw [Nat.pow_add]
        exact Nat.le_trans (lcm_le ha hl) (Nat.mul_le_mul hc (len_le_pow _))
      have := ih _ (c + l.length) (Nat.lcm_pos ha hl) h1 (fun x hx => h x (by simp [hx]))
      simpa [Nat.add_assoc] using this
  intro ls h
  have h1 := this ls 1 0 (by omega) (by simp) h
  rwa [Nat.zero_add] at h1
theorem loops_pos {nx : Nat → Nat} {T : Nat} (P : Perm nx T) : ∀ l ∈ loops nx T, 0 < l.length := fun l hl => by
  obtain ⟨h, _, _, L, _⟩ := (loops_found P T (Nat.le_refl _)).loop l hl
  exact L.pos
theorem sum_take_le (ls : List Nat) : ∀ k, (ls.take k).sum ≤ ls.sum := by
  induction ls with
  | nil => simp
  | cons a ls ih =>
    intro k
    cases k with
    | zero => simp
    | succ k => simp only [List.take_succ_cons, List.sum_cons]; have := ih k; omega
/-- the period of the first k loops is below 2 to the 48th -/
theorem per_take {nx : Nat → Nat} {T : Nat} (P : Perm nx T) (hT : T ≤ 48) (k : Nat) : 0 < perTo ((loops nx T).take k) ∧ perTo ((loops nx T).take k) ≤ 281474976710656 := by
  have hp : ∀ l ∈ (loops nx T).take k, 0 < l.length := fun l hl => loops_pos P l (List.mem_of_mem_take hl)
  refine ⟨per_pos _ hp, Nat.le_trans (per_le _ hp) ?_⟩
  have h1 : (((loops nx T).take k).map List.length).sum ≤ 48 := by
    rw [List.map_take]
    have := sum_take_le ((loops nx T).map List.length) k
    rw [loops_total P] at this
    omega
  exact Nat.le_trans (Nat.pow_le_pow_right (by omega) h1) (by decide)
theorem loops_take_all (nx : Nat → Nat) (T : Nat) : (loops nx T).take (loops nx T).length = loops nx T := List.take_length
def per (nx : Nat → Nat) (T : Nat) : Nat := perTo (loops nx T)
theorem per_bounds {nx : Nat → Nat} {T : Nat} (P : Perm nx T) (hT : T ≤ 48) : 0 < per nx T ∧ per nx T ≤ 281474976710656 := by
  have := per_take P hT (loops nx T).length
  rwa [loops_take_all] at this
theorem loop_of {nx : Nat → Nat} {T : Nat} (P : Perm nx T) {t : Nat} (ht : t < T) : ∃ l ∈ loops nx T, t ∈ l := ((loops_found P T (Nat.le_refl _)).seen t).1 ((loops_found P T (Nat.le_refl _)).all t ht)
/-- all numbers are back after n steps exactly if the period divides n -/
theorem per_back {nx : Nat → Nat} {T : Nat} (P : Perm nx T) (n : Nat) : (∀ t, t < T → it nx n t = t) ↔ per nx T ∣ n := by
  unfold per
  rw [per_dvd]
  have F := loops_found P T (Nat.le_refl _)
  constructor
  · intro h l hl
    obtain ⟨t, _, ht, L, _⟩ := F.loop l hl
    exact (L.dvd n).1 (h t ht)
  · intro h t ht
    obtain ⟨l, hl, hm⟩ := loop_of P ht
    obtain ⟨t0, _, ht0, L, _⟩ := F.loop l hl
    exact (L.dvd_mem P ht0 hm n).2 (h l hl)
/-- no number from 2 on that divides the period can be left out -/
theorem per_prime {nx : Nat → Nat} {T : Nat} {d : Nat} (hd : 2 ≤ d) (hdv : d ∣ per nx T) (hp : 0 < per nx T) : ∃ l ∈ loops nx T, per nx T / d % l.length ≠ 0 := by
  apply Classical.byContradiction
  intro hno
  have h : ∀ l ∈ loops nx T, l.length ∣ per nx T / d := fun l hl => by
    apply Classical.byContradiction
    intro hn
    exact hno ⟨l, hl, fun e => hn (Nat.dvd_of_mod_eq_zero e)⟩
  have h2 := (per_dvd (loops nx T) (per nx T / d)).2 h
  have h3 : 0 < per nx T / d := Nat.div_pos (Nat.le_of_dvd hp hdv) (by omega)
  have h4 := Nat.le_of_dvd h3 h2
  have h5 : per nx T / d < per nx T := Nat.div_lt_self hp hd
  unfold per at h4 h5
  omega
/-! ### k times -/
theorem it_mul (nx : Nat → Nat) (k : Nat) : ∀ m t, it (it nx k) m t = it nx (m * k) t
  | 0, _ => by rw [Nat.zero_mul]; rfl
  | m + 1, t => by
    show it (it nx k) m (it nx k t) = _
    rw [it_mul nx k m, ← it_add, Nat.add_mul, Nat.one_mul]
theorem perm_it {nx : Nat → Nat} {T : Nat} (P : Perm nx T) (k : Nat) : Perm (it nx k) T := ⟨fun a h => P.it_lt k a h, fun a b ha hb h => P.it_inj k a b ha hb h⟩
theorem dvd_mul_gcd {n k m : Nat} (hn : 0 < n) : n ∣ m * k ↔ n / Nat.gcd n k ∣ m := by
  have hg : 0 < Nat.gcd n k := Nat.gcd_pos_of_pos_left _ hn
  obtain ⟨a, ha⟩ := Nat.gcd_dvd_left n k
  obtain ⟨b, hb⟩ := Nat.gcd_dvd_right n k
  have hco : Nat.Coprime a b := by
    have := Nat.coprime_div_gcd_div_gcd (m := n) (n := k) hg
    rw [Nat.div_eq_of_eq_mul_right hg ha, Nat.div_eq_of_eq_mul_right hg hb] at this
    exact this
  have hdiv : n / Nat.gcd n k = a := Nat.div_eq_of_eq_mul_right hg ha
  rw [hdiv]
  generalize Nat.gcd n k = g at ha hb hg
  subst ha hb
  constructor
  · intro h
    have h2 : g * a ∣ g * (m * b) := by rwa [show g * (m * b) = m * (g * b) by rw [Nat.mul_left_comm]]
    exact hco.dvd_of_dvd_mul_right (Nat.dvd_of_mul_dvd_mul_left hg h2)
  · rintro ⟨c, rfl⟩
    refine ⟨c * b, ?_⟩
    simp only [Nat.mul_comm, Nat.mul_left_comm]
/-- the loop of a map done k times, of a number in a loop of n numbers, has n / gcd (n, k) numbers -/
theorem len_it {nx : Nat → Nat} {T : Nat} (P : Perm nx T) (k : Nat) {l l' : List Nat} {h h' t : Nat} (L : Loop nx h l) (L' : Loop (it nx k) h' l') (ht : h < T) (ht' : h' < T) (hm : t ∈ l) (hm' : t ∈ l') : l'.length = l.length / Nat.gcd l.length k := by
  have h1 : ∀ m, l'.length ∣ m ↔ l.length / Nat.gcd l.length k ∣ m := fun m => by
    rw [← L'.dvd_mem (perm_it P k) ht' hm', it_mul, L.dvd_mem P ht hm, dvd_mul_gcd L.pos]
  exact Nat.dvd_antisymm ((h1 _).2 (Nat.dvd_refl _)) ((h1 _).1 (Nat.dvd_refl _))
def wantTo (k : Nat) (ls : List (List Nat)) (m : Nat) : Nat := (ls.map (fun l => if l.length / Nat.gcd l.length k = m then Nat.gcd l.length k else 0)).sum
def gotTo (ls : List (List Nat)) (m : Nat) : Nat := (ls.map (fun l => if l.length = m then 1 else 0)).sum
theorem sum_congr {l : List Nat} {F : Nat → Nat} {c : Nat} (h : ∀ t ∈ l, F t = c) : (l.map F).sum = l.length * c := by
  rw [← sum_const c l]
  congr 1
  exact List.map_congr_left h
theorem sum_mul {α : Type} (m : Nat) (f : α → Nat) (ls : List α) : (ls.map (fun l => m * f l)).sum = m * (ls.map f).sum := by
  induction ls with
  | nil => simp
  | cons x ls ih => rw [List.map_cons, List.sum_cons, ih, List.map_cons, List.sum_cons, Nat.mul_add]
/-- as many loops of each length as the law wants -/
theorem want_got {nx : Nat → Nat} {T : Nat} (P : Perm nx T) (k m : Nat) (hm : 0 < m) : wantTo k (loops nx T) m = gotTo (loops (it nx k) T) m := by
  have P' := perm_it P k
  have F := loops_found P T (Nat.le_refl _)
  have F' := loops_found P' T (Nat.le_refl _)
  let W : Nat → Nat := fun t => if ∃ l ∈ loops nx T, t ∈ l ∧ l.length / Nat.gcd l.length k = m then 1 else 0
  have hW : ∀ t (l : List Nat), l ∈ loops nx T → t ∈ l → W t = if l.length / Nat.gcd l.length k = m then 1 else 0 := fun t l hl ht => by
    by_cases e : l.length / Nat.gcd l.length k = m
    · rw [if_pos e]
      exact if_pos ⟨l, hl, ht, e⟩
    · rw [if_neg e]
      refine if_neg ?_
      rintro ⟨l2, hl2, ht2, e2⟩
      obtain ⟨a, ha⟩ := List.mem_iff_getElem?.1 hl
      obtain ⟨b, hb⟩ := List.mem_iff_getElem?.1 hl2
      have := F.one a b l l2 t ha hb ht ht2
      subst this
      rw [ha] at hb; injection hb with hb
      subst hb
      exact e e2
  have h1 : lsum W (loops nx T) = m * wantTo k (loops nx T) m := by
    unfold lsum wantTo
    rw [← sum_mul]
    congr 1
    apply List.map_congr_left
    intro l hl
    rw [sum_congr (fun t ht => hW t l hl ht)]
    split
    · rename_i e
      have hd := Nat.gcd_dvd_left l.length k
      rw [Nat.mul_one, ← e, Nat.div_mul_cancel hd]
    · simp
  have h2 : lsum W (loops (it nx k) T) = m * gotTo (loops (it nx k) T) m := by
    unfold lsum gotTo
    rw [← sum_mul]
    congr 1
    apply List.map_congr_left
    intro l' hl'
    obtain ⟨h', _, ht', L', _⟩ := F'.loop l' hl'
    rw [sum_congr (c := if l'.length = m then 1 else 0) (fun t ht => ?_)]
    · split
      · rename_i e; rw [e]
      · simp
    · obtain ⟨l, hl, hml⟩ := loop_of P (L'.lt P' ht' ht)
      obtain ⟨h, _, hh, L, _⟩ := F.loop l hl
      rw [hW t l hl hml, len_it P k L L' hh ht' hml ht]
  rw [lsum_all P] at h1
  rw [lsum_all P'] at h2
  rw [h1] at h2
  exact Nat.eq_of_mul_eq_mul_left hm h2
end Cyc
end Go.Proofs.Ytdimfbmbomgiaaa
/-
  Plain words of seams: the joints as a list, place by place.
-/
namespace Go.Proofs.Ytdimfbmbomgiaaa
open Go.RowKit
/-- the error of a sheet and a shift -/
def seE (p : Int) (ws : List Wk) (h : Int) : Int := if schk p ws ≠ 0 then schk p ws else if h < 0 ∨ p ≤ h then 2 else 0
/-- N cells: the joints of the threads that lie in the first j places -/
def jlS (ws : List Wk) (T h N j : Nat) : List Int := (List.range N).map (fun t => if t < T ∧ inS ws t < j then (nxS ws T h t : Int) else 0)
def nxL (ws : List Wk) (T h N : Nat) : List Int := (List.range N).map (fun t => if t < T then (nxS ws T h t : Int) else 0)
theorem jlS_len (ws : List Wk) (T h N j : Nat) : (jlS ws T h N j).length = N := by simp [jlS]
theorem nxL_len (ws : List Wk) (T h N : Nat) : (nxL ws T h N).length = N := by simp [nxL]
theorem jlS_zero (ws : List Wk) (T h N : Nat) : jlS ws T h N 0 = List.replicate N 0 := by
  unfold jlS
  apply List.ext_getElem?
  intro i
  rw [List.getElem?_map, List.getElem?_replicate]
  by_cases e : i < N
  · rw [List.getElem?_range e, if_pos e]; simp
  · rw [List.getElem?_eq_none (by simpa using e), if_neg e]; rfl
theorem jlS_get (ws : List Wk) {T h N j t : Nat} (ht : t < N) : (jlS ws T h N j)[t]? = some (if t < T ∧ inS ws t < j then (nxS ws T h t : Int) else 0) := by
  unfold jlS; rw [List.getElem?_map, List.getElem?_range ht]; rfl
theorem nxL_get (ws : List Wk) {T h N t : Nat} (ht : t < N) (hT : t < T) : (nxL ws T h N)[t]? = some (nxS ws T h t : Int) := by
  unfold nxL; rw [List.getElem?_map, List.getElem?_range ht]; simp [hT]
theorem nxS_plS (ws : List Wk) (T h j : Nat) : nxS ws T h (plS ws j) = (j + 2 * h) % T := by unfold nxS; rw [inS_plS]
theorem jlS_set (ws : List Wk) {T h N j : Nat} (hp : plS ws j < T) : (jlS ws T h N j).set (plS ws j) (((j + 2 * h) % T : Nat) : Int) = jlS ws T h N (j + 1) := by
  apply List.ext_getElem?
  intro i
  rw [List.getElem?_set, jlS_len]
  by_cases hi : i < N
  · rw [jlS_get ws hi, jlS_get ws hi]
    by_cases e : plS ws j = i
    · subst e
      rw [if_pos rfl, if_pos hi, if_pos ⟨hp, by rw [inS_plS]; omega⟩, nxS_plS]
    · rw [if_neg e]
      have : inS ws i ≠ j := fun e2 => e (by rw [← e2, plS_inS])
      congr 1
      by_cases h1 : i < T ∧ inS ws i < j
      · rw [if_pos h1, if_pos ⟨h1.1, by omega⟩]
      · rw [if_neg h1, if_neg (fun h2 => h1 ⟨h2.1, by omega⟩)]
  · have h1 : (jlS ws T h N (j + 1))[i]? = none := List.getElem?_eq_none (by rw [jlS_len]; omega)
    have h2 : (jlS ws T h N j)[i]? = none := List.getElem?_eq_none (by rw [jlS_len]; omega)
    rw [h1, h2]
    split
    · split
      · omega
      · rfl
    · rfl
theorem jlS_all {p : Int} {ws : List Wk} (hok : SOk p ws) (h N : Nat) : jlS ws (2 * p).toNat h N (2 * p).toNat = nxL ws (2 * p).toNat h N := by
  unfold jlS nxL
  apply List.map_congr_left
  intro t _
  by_cases e : t < (2 * p).toNat
  · rw [if_pos e, if_pos ⟨e, inS_lt hok e⟩]
  · rw [if_neg e, if_neg (fun h => e h.1)]
/-- the reference's way to reckon a joint -/
theorem joint_ref {P h j : Nat} (hP : 0 < P) : 2 * ((j / 2 + h) % P) + j % 2 = (j + 2 * h) % (2 * P) := by
  have h1 : j + 2 * h = 2 * (j / 2 + h) + j % 2 := by omega
  rw [h1]
  have h2 : j % 2 < 2 := Nat.mod_lt _ (by omega)
  generalize j / 2 + h = a
  generalize j % 2 = b at h2
  have h3 : 2 * a + b = (2 * (a % P) + b) + 2 * P * (a / P) := by
    have := Nat.mod_add_div a P
    rw [Nat.mul_assoc]
    omega
  have h4 : a % P < P := Nat.mod_lt _ hP
  rw [h3, Nat.add_mul_mod_self_left, Nat.mod_eq_of_lt (show 2 * (a % P) + b < 2 * P by omega)]
/-- the loops of a sheet's joints -/
def loopsS (ws : List Wk) (T h : Nat) : List (List Nat) := Cyc.loops (nxS ws T h) T
end Go.Proofs.Ytdimfbmbomgiaaa
/-
  Contracts of math/bits.Mul64 and Mul for two small numbers.
-/
namespace Go.Proofs.Ytdimfbmbomgiaaa
open Go.RowKit
theorem maskS (a : Nat) (ha : a < 4294967296) : bits .and .u64 (a : Int) 4294967295 = (a : Int) := by
  have h := bits_and_u64_nat a 4294967295 (by omega) (by omega)
  have e : a &&& 4294967295 = a % 4294967296 := Nat.and_two_pow_sub_one_eq_mod a 32
  rw [e, Nat.mod_eq_of_lt ha] at h
  exact h
theorem wrapS (a : Nat) (ha : a < 4294967296) : IntKind.u64.wrap (a : Int) = (a : Int) := by rw [IntKind.wrap_u64]; omega
theorem divS (a : Nat) (ha : a < 4294967296) : (a : Int) / 4294967296 = 0 := by omega
set_option maxRecDepth 100000 in
theorem mul64s (a b : Nat) (w : World) (ha : a ≤ 60000) (hb : b ≤ 60000) : Calls Try.prog 61 #[.int .u64 (a : Int), .int .u64 (b : Int)] w fun e w' => e = .returned (.tuple #[.int .u64 0, .int .u64 ((a * b : Nat) : Int)]) ∧ w' = w := by
  have hab : a * b < 4294967296 := Nat.lt_of_le_of_lt (Nat.mul_le_mul ha hb) (by decide)
  have HAB := Lib.hid hab; clear hab
  go_enter Try.func61, Try.ntmps61
  go_wp2
  go_ret2
  refine ⟨?_, rfl⟩
  have e0 : (a : Int) * (b : Int) = ((a * b : Nat) : Int) := (Int.natCast_mul a b).symm
  have hz : IntKind.u64.wrap (0 : Int) = 0 := by decide
  have hm0 : bits .and .u64 (0 : Int) 4294967295 = 0 := by decide
  simp only [maskS a (by omega), maskS b (by omega), divS a (by omega), divS b (by omega), e0, wrapS (a * b) HAB.out, divS (a * b) HAB.out, Int.mul_zero, Int.zero_mul, Int.add_zero, hz, hm0, Int.zero_ediv]
  rfl
set_option maxRecDepth 100000 in
theorem muls (a b : Nat) (w : World) (ha : a ≤ 60000) (hb : b ≤ 60000) : Calls Try.prog 50 #[.int .u64 (a : Int), .int .u64 (b : Int)] w fun e w' => e = .returned (.tuple #[.int .u64 0, .int .u64 ((a * b : Nat) : Int)]) ∧ w' = w := by
  go_enter Try.func50, Try.ntmps50
  go_wp2_with fail
  refine (mul64s a b w ha hb).mono ?_
  rintro e w' ⟨rfl, rfl⟩
  go_wp2
  go_ret2
  exact ⟨rfl, rfl⟩
end Go.Proofs.Ytdimfbmbomgiaaa
/-
  copy as a law for the walk, for elements of z cells. No program here.
-/
namespace Go.Proofs.Ytdimfbmbomgiaaa
open Go.RowKit
theorem run_copyz_row {P : Program} (w : World) (dT sT ty elem : TypeId) (g o dLen dCap z k : Nat) (a : Addr) (sLen sCap : Nat) (cur : Array Value) (t : TypeId) (cs : List Value)
    (hu : P.underlying dT = some (.slice elem)) (hs : (P.info? elem).map (·.size) = some z)
    (hg : w.heap[g]? = some (.cells cur t (0, 0))) (hk : k = Nat.min sLen dLen) (hn : cs.length = k * z)
    (hsrc : ∀ j v, cs[j]? = some v → w.cell? (a.add j) = some v) (hfit : o + cs.length ≤ cur.size) (h1 : ∀ v ∈ cs, v.oneCell' = true) :
    (Builtin.copy_ #[dT, sT] ty #[.slice (some ⟨g, o, none⟩) dLen dCap, .slice (some a) sLen sCap]).run P w =
      .ok (goInt k) (w.setRow g (cur.toList.take o ++ cs ++ cur.toList.drop (o + cs.length)).toArray) := by
  have hl := run_loadCells_list (P := P) w a cs hsrc
  have hst := run_storeCells_at P g o t cs 0 cur w hg (by simpa using hfit) h1
  cases hq : P.info? elem with
  | none => simp [hq] at hs
  | some i =>
    have hi : i.size = z := by simpa [hq] using hs
    rw [hn] at hl
    simp [Builtin.copy_, run_underlying hu, Builtin.lenOf, Builtin.firstCells, sizeOf, typeInfo, hq, hi, ← hk, hl, hst]
theorem run_copyz_none {P : Program} (w : World) (dT sT ty elem : TypeId) (d a : Option Addr) (dLen dCap sLen sCap z : Nat) (hu : P.underlying dT = some (.slice elem)) (hs : (P.info? elem).map (·.size) = some z) (hn : Nat.min sLen dLen = 0) :
    (Builtin.copy_ #[dT, sT] ty #[.slice d dLen dCap, .slice a sLen sCap]).run P w = .ok (goInt 0) w := by
  cases hq : P.info? elem with
  | none => simp [hq] at hs
  | some i =>
    have hl : ∀ (x : Addr), (loadCells x 0).run P w = .ok #[] w := fun x => by simpa using run_loadCells_list (P := P) w x [] (by simp)
    cases d <;> cases a <;> simp [Builtin.copy_, run_underlying hu, Builtin.lenOf, Builtin.firstCells, sizeOf, typeInfo, hq, hn, storeCells, hl]
theorem wpList_copyz {P : Program} {w : World} {ops : Array Oper} {rest : List Oper} {o : Oper} {a : Act} {Q : Exit → Act → World → Prop} (hgd : o.guard = none) (d s : Operand) (dT sT : TypeId)
    (ho : o.op = .call { callee := .builtin .copy, args := #[d, s], argTypes := #[dT, sT] }) (elem : TypeId) (z : Nat) (hu : P.underlying dT = some (.slice elem)) (hsz : (P.info? elem).map (·.size) = some z)
    (dp sp : Option Addr) (dLen dCap sLen sCap : Nat) (hd : a.eval d = .slice dp dLen dCap) (hs : a.eval s = .slice sp sLen sCap) (k : Nat) (hk : k = Nat.min sLen dLen)
    (g off : Nat) (cur : List Value) (t : TypeId) (hg : w.heap[g]? = some (.cells cur.toArray t (0, 0))) (cs : List Value) (hn : cs.length = k * z)
    (hpos : 0 < k → dp = some ⟨g, off, none⟩ ∧ ∃ ad, sp = some ad ∧ ∀ j v, cs[j]? = some v → w.cell? (ad.add j) = some v)
    (hfit : off + cs.length ≤ cur.length) (h1 : ∀ v ∈ cs, v.oneCell' = true) (B : Nat) (w0 : World) (hb : Below B w0 w) (hBg : B ≤ g)
    (h : ∀ w', Hid (w'.heap[g]? = some (.cells (splice cur off cs).toArray t (0, 0))) → Below B w0 w' → wpList P ops Q rest (a.put o.dst (goInt k)) w') :
    wpList P ops Q (o :: rest) a w := by
  refine wpList_plain hgd fun K hK => ?_
  by_cases h0 : k = 0
  · subst h0
    obtain rfl : cs = [] := List.eq_nil_of_length_eq_zero (by rw [hn, Nat.zero_mul])
    have hrun := run_copyz_none (P := P) w dT sT o.type elem dp sp dLen dCap sLen sCap z hu hsz hk.symm
    unfold Oper.wp
    simp [execOp, ho, resolve, invoke, builtin, hd, hs, hrun, Result.andThen]
    exact hK _ _ (h w (show _ = _ by simpa [splice] using hg) hb)
  · obtain ⟨rfl, ad, rfl, hsrc⟩ := hpos (by omega)
    have hrun := run_copyz_row (P := P) w dT sT o.type elem g off dLen dCap z k ad sLen sCap cur.toArray t cs hu hsz hg hk hn hsrc (by simpa using hfit) h1
    unfold Oper.wp
    simp [execOp, ho, resolve, invoke, builtin, hd, hs, hrun, Result.andThen]
    exact hK _ _ (h _ (show _ = _ by simpa [splice] using setRow_heap w g _ _ t _ hg) (below_setRow hb hBg _))
theorem step_copyz {P : Program} {ops : Array Oper} {o : Oper} {a : Act} {w : World} {K : Act → World → Prop} {Q : Exit → Act → World → Prop} {E : Prop} (hgd : o.guard = none) (d s : Operand) (dT sT : TypeId)
    (ho : o.op = .call { callee := .builtin .copy, args := #[d, s], argTypes := #[dT, sT] }) (elem : TypeId) (z : Nat) (hu : P.underlying dT = some (.slice elem)) (hsz : (P.info? elem).map (·.size) = some z)
    (dp sp : Option Addr) (dLen dCap sLen sCap : Nat) (hd : a.eval d = .slice dp dLen dCap) (hs : a.eval s = .slice sp sLen sCap) (k : Nat) (hk : k = Nat.min sLen dLen)
    (g off : Nat) (cur : List Value) (t : TypeId) (hg : w.heap[g]? = some (.cells cur.toArray t (0, 0))) (cs : List Value) (hn : cs.length = k * z)
    (hpos : 0 < k → dp = some ⟨g, off, none⟩ ∧ ∃ ad, sp = some ad ∧ ∀ j v, cs[j]? = some v → w.cell? (ad.add j) = some v)
    (hfit : off + cs.length ≤ cur.length) (h1 : ∀ v ∈ cs, v.oneCell' = true) (B : Nat) (w0 : World) (hb : RowKit.Below B w0 w) (hBg : B ≤ g)
    (h : ∀ w', RowKit.Hid (w'.heap[g]? = some (.cells (splice cur off cs).toArray t (0, 0))) → RowKit.Below B w0 w' → K (a.put o.dst (goInt k)) w') :
    if Region.wanted o (yielded ops a.tmps) = true then Oper.wp P o a w K Q else E := by
  have hw : Region.wanted o (yielded ops a.tmps) = true := by simp [Region.wanted, hgd]
  rw [if_pos hw]
  by_cases h0 : k = 0
  · subst h0
    obtain rfl : cs = [] := List.eq_nil_of_length_eq_zero (by rw [hn, Nat.zero_mul])
    have hrun := run_copyz_none (P := P) w dT sT o.type elem dp sp dLen dCap sLen sCap z hu hsz hk.symm
    unfold Oper.wp
    simp [execOp, ho, resolve, invoke, builtin, hd, hs, hrun, Result.andThen]
    exact h w (show _ = _ by simpa [splice] using hg) hb
  · obtain ⟨rfl, ad, rfl, hsrc⟩ := hpos (by omega)
    have hrun := run_copyz_row (P := P) w dT sT o.type elem g off dLen dCap z k ad sLen sCap cur.toArray t cs hu hsz hg hk hn hsrc (by simpa using hfit) h1
    unfold Oper.wp
    simp [execOp, ho, resolve, invoke, builtin, hd, hs, hrun, Result.andThen]
    exact h _ (show _ = _ by simpa [splice] using setRow_heap w g _ _ t _ hg) (below_setRow hb hBg _)
end Go.Proofs.Ytdimfbmbomgiaaa
