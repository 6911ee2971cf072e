/-
  The net by stacks of indices: plain lemmas on lists.
-/
import Derived.Test.YtnjenggijmbhcaaVK5
namespace Go.Proofs.Ytnjenggijmbhcaa
open Go.RowKit
def wk0 : Wk := ⟨0, 0, ⟨#[]⟩⟩
def wks (ws : List Wk) (K : List Nat) : List Wk := K.map fun k => ws.getD k wk0
theorem wks_app (ws : List Wk) (K K' : List Nat) : wks ws (K ++ K') = wks ws K ++ wks ws K' := by simp [wks]
theorem wks_len (ws : List Wk) (K : List Nat) : (wks ws K).length = K.length := by simp [wks]
theorem wks_get {ws : List Wk} {K : List Nat} {j k : Nat} {x : Wk} (h : K[j]? = some k) (hx : ws[k]? = some x) : (wks ws K)[j]? = some x := by
  unfold wks; rw [List.getElem?_map, h]; simp [List.getD_eq_getElem?_getD, hx]
theorem wat_wks (ws : List Wk) (K : List Nat) (j k : Nat) (h : K[j]? = some k) : wat (wks ws K) j = wat ws k := by
  unfold wat wks
  rw [List.getElem?_map, h]
  cases hk : ws[k]? with
  | none => simp [List.getD_eq_getElem?_getD, hk, wk0]
  | some x => simp [List.getD_eq_getElem?_getD, hk]
def stk (ws : List Wk) (K : List Nat) (q : Nat) : List Nat := K.filter fun k => takes (wat ws k) q
def topOf (L : List Nat) : Int := match L.getLast? with | some k => (k : Int) | none => -1
theorem topOf_nil : topOf [] = -1 := rfl
theorem topOf_snoc (L : List Nat) (k : Nat) : topOf (L ++ [k]) = k := by simp [topOf]
theorem topOf_ge (L : List Nat) : -1 ≤ topOf L := by unfold topOf; cases L.getLast? <;> (try simp) <;> omega
theorem topOf_mem {L : List Nat} {t : Nat} (h : topOf L = t) : t ∈ L := by
  unfold topOf at h
  cases hl : L.getLast? with
  | none => rw [hl] at h; simp at h
  | some k =>
    rw [hl] at h
    have : (k : Int) = t := h
    have : k = t := by omega
    subst this
    exact List.mem_of_getLast? hl
theorem touch_comm (a b : Int) : touch a b = touch b a := by unfold touch; rw [Bool.and_comm]
theorem touch_tk (b : Int) (a : Nat) : touch b a = (takes b a || takes b (a + 1)) := by rw [touch_comm, touch_takes]
theorem lastPos_congr {l l' : List Wk} (a : Int) (m : Nat) (h : ∀ j, j < m → wat l j = wat l' j) : lastPos l a m = lastPos l' a m := by
  induction m with
  | zero => rfl
  | succ m ih => unfold lastPos; rw [h m (by omega), ih fun j hj => h j (by omega)]
theorem net_cases (ws : List Wk) (a : Int) (K : List Nat) :
    (lastPos (wks ws K) a K.length = -1 ∧ ∀ u ∈ K, touch (wat ws u) a = false) ∨
    ∃ K1 t K2, K = K1 ++ t :: K2 ∧ touch (wat ws t) a = true ∧ (∀ u ∈ K2, touch (wat ws u) a = false) ∧ lastPos (wks ws K) a K.length = K1.length := by
  obtain ⟨R, rfl⟩ : ∃ R, K = R.reverse := ⟨K.reverse, by simp⟩
  induction R with
  | nil => exact .inl ⟨rfl, fun u hu => by simp at hu⟩
  | cons u R ih =>
    rw [List.reverse_cons]
    have hlen : (R.reverse ++ [u]).length = R.reverse.length + 1 := by simp
    have hw : wat (wks ws (R.reverse ++ [u])) R.reverse.length = wat ws u := wat_wks ws _ _ u (by simp)
    have hc : lastPos (wks ws (R.reverse ++ [u])) a R.reverse.length = lastPos (wks ws R.reverse) a R.reverse.length := by
      apply lastPos_congr
      intro j hj
      obtain ⟨k, hk⟩ := get_of_lt hj
      rw [wat_wks ws _ j k (by rw [List.getElem?_append_left hj]; exact hk), wat_wks ws _ j k hk]
    rw [hlen, lastPos, hw, hc]
    cases ht : touch (wat ws u) a with
    | true => exact .inr ⟨R.reverse, u, [], rfl, ht, fun v hv => by simp at hv, by simp⟩
    | false =>
      simp only [Bool.false_eq_true, if_false]
      rcases ih with ⟨h1, h2⟩ | ⟨K1, t, K2, h1, h2, h3, h4⟩
      · refine .inl ⟨h1, fun v hv => ?_⟩
        rcases List.mem_append.1 hv with hv | hv
        · exact h2 v hv
        · simp at hv; rw [hv]; exact ht
      · refine .inr ⟨K1, t, K2 ++ [u], by rw [h1]; simp, h2, fun v hv => ?_, h4⟩
        rcases List.mem_append.1 hv with hv | hv
        · exact h3 v hv
        · simp at hv; rw [hv]; exact ht
theorem stk_app (ws : List Wk) (K K' : List Nat) (q : Nat) : stk ws (K ++ K') q = stk ws K q ++ stk ws K' q := by simp [stk]
theorem stk_none {ws : List Wk} {K : List Nat} {q : Nat} (h : ∀ u ∈ K, takes (wat ws u) q = false) : stk ws K q = [] := by
  unfold stk
  rw [List.filter_eq_nil_iff]
  intro u hu
  rw [h u hu]; simp
/-- what one step of the net is, by the tops of two stacks -/
theorem net_step (ws : List Wk) (K : List Nat) (i a : Nat) (x : Wk) (hx : ws[i]? = some x) (ha : x.at_ = a) (hK : ∀ k ∈ K, k < ws.length) :
    (topOf (stk ws K a) = topOf (stk ws K (a + 1)) ∧ 0 ≤ topOf (stk ws K a) ∧ ws[(topOf (stk ws K a)).toNat]? = some (undoW x) ∧
      ∃ (K1 : List Nat) (t : Nat) (K2 : List Nat), K = K1 ++ t :: K2 ∧ topOf (stk ws K a) = (t : Int) ∧ wat ws t = a ∧ (∀ u ∈ K2, takes (wat ws u) a = false ∧ takes (wat ws u) (a + 1) = false) ∧ netStep (wks ws K) x = wks ws (K1 ++ K2)) ∨
    (¬ (topOf (stk ws K a) = topOf (stk ws K (a + 1)) ∧ 0 ≤ topOf (stk ws K a) ∧ ws[(topOf (stk ws K a)).toNat]? = some (undoW x)) ∧ netStep (wks ws K) x = wks ws (K ++ [i])) := by
  have hpush : wks ws (K ++ [i]) = wks ws K ++ [x] := by rw [wks_app]; simp [wks, List.getD_eq_getElem?_getD, hx]
  rcases net_cases ws x.at_ K with ⟨h1, h2⟩ | ⟨K1, t, K2, h1, h2, h3, h4⟩
  · right
    have hn : ∀ u ∈ K, takes (wat ws u) a = false := fun u hu => by
      have := h2 u hu; rw [ha, touch_tk] at this
      simp only [Bool.or_eq_false_iff] at this; exact this.1
    rw [stk_none hn, topOf_nil]
    refine ⟨by rintro ⟨_, h, _⟩; omega, ?_⟩
    rw [hpush, netStep, wks_len, h1, if_neg (by omega)]
  · have hn : ∀ u ∈ K2, takes (wat ws u) a = false ∧ takes (wat ws u) (a + 1) = false := fun u hu => by
      have := h3 u hu; rw [ha, touch_tk] at this
      simpa only [Bool.or_eq_false_iff] using this
    rw [ha, touch_tk] at h2
    have t1 : takes (wat ws t) a = true → topOf (stk ws K a) = t := fun h => by
      rw [h1, stk_app, show stk ws (t :: K2) a = [t] by
        rw [show t :: K2 = [t] ++ K2 from rfl, stk_app, stk_none fun u hu => (hn u hu).1]; simp [stk, h], topOf_snoc]
    have t2 : takes (wat ws t) (a + 1) = true → topOf (stk ws K (a + 1)) = t := fun h => by
      rw [h1, stk_app, show stk ws (t :: K2) (a + 1) = [t] by
        rw [show t :: K2 = [t] ++ K2 from rfl, stk_app, stk_none fun u hu => (hn u hu).2]; simp [stk, h], topOf_snoc]
    have hKt : K[K1.length]? = some t := by rw [h1]; simp
    have htl : t < ws.length := hK t (by rw [h1]; simp)
    obtain ⟨y, hy⟩ := get_of_lt htl
    have hLt : (wks ws K)[K1.length]? = some y := wks_get hKt hy
    by_cases hyx : y = undoW x
    · left
      have hwt : wat ws t = a := by rw [wat_get hy, hyx, ← ha]; rfl
      have e1 := t1 (by rw [hwt]; simp [takes])
      have e2 := t2 (by rw [hwt]; simp [takes])
      refine ⟨by rw [e1, e2], by rw [e1]; omega, by rw [e1, Int.toNat_natCast, hy, hyx], K1, t, K2, h1, e1, hwt, hn, ?_⟩
      rw [netStep, wks_len, h4, Int.toNat_natCast, if_pos ⟨by omega, by rw [hLt, hyx]⟩, h1, List.eraseIdx_eq_take_drop_succ, wks_app, wks_app]
      congr 1
      · rw [List.take_append_of_le_length (by rw [wks_len]; exact Nat.le_refl _), List.take_of_length_le (by rw [wks_len]; exact Nat.le_refl _)]
      · rw [List.drop_append, wks_len, List.drop_of_length_le (by rw [wks_len]; omega), show K1.length + 1 - K1.length = 1 by omega]
        simp [wks]
    · right
      constructor
      · rintro ⟨e1, e2, e3⟩
        apply hyx
        have hl : topOf (stk ws K a) = t := by
          rcases Bool.or_eq_true_iff.1 h2 with h | h
          · exact t1 h
          · rw [e1]; exact t2 h
        rw [hl, Int.toNat_natCast, hy] at e3
        exact Option.some.inj e3
      · rw [hpush, netStep, wks_len, h4, if_neg]
        rintro ⟨_, h⟩
        rw [Int.toNat_natCast, hLt] at h
        exact hyx (Option.some.inj h)
/-- the stacks behind a pop -/
theorem stk_pop {ws : List Wk} {K1 K2 : List Nat} {t a : Nat} (hwt : wat ws t = a) (hn : ∀ u ∈ K2, takes (wat ws u) a = false ∧ takes (wat ws u) (a + 1) = false) (q : Nat) :
    stk ws (K1 ++ K2) q = if q = a ∨ q = a + 1 then (stk ws (K1 ++ t :: K2) q).dropLast else stk ws (K1 ++ t :: K2) q := by
  have e : stk ws (K1 ++ t :: K2) q = stk ws K1 q ++ (stk ws [t] q ++ stk ws K2 q) := by
    rw [show K1 ++ t :: K2 = K1 ++ ([t] ++ K2) from rfl, stk_app, stk_app]
  rw [stk_app, e]
  by_cases h : q = a ∨ q = a + 1
  · rw [if_pos h]
    have h2 : stk ws K2 q = [] := stk_none fun u hu => by
      rcases h with rfl | rfl
      · exact (hn u hu).1
      · exact (hn u hu).2
    have h1 : stk ws [t] q = [t] := by
      have : takes (wat ws t) q = true := by rw [hwt]; unfold takes; rcases h with rfl | rfl <;> simp
      simp [stk, this]
    rw [h2, h1]; simp
  · rw [if_neg h]
    have h1 : stk ws [t] q = [] := stk_none fun u hu => by
      simp at hu; subst hu
      rw [hwt]; unfold takes
      have e1 : ((q : Int) == (a : Int)) = false := by simp; omega
      have e2 : ((q : Int) == (a : Int) + 1) = false := by simp; omega
      rw [e1, e2]; rfl
    rw [h1]; simp
theorem stk_push {ws : List Wk} {K : List Nat} {i a : Nat} (hwi : wat ws i = a) (q : Nat) : stk ws (K ++ [i]) q = if q = a ∨ q = a + 1 then stk ws K q ++ [i] else stk ws K q := by
  rw [stk_app]
  by_cases h : q = a ∨ q = a + 1
  · rw [if_pos h]
    have : takes (wat ws i) q = true := by rw [hwi]; unfold takes; rcases h with rfl | rfl <;> simp
    simp [stk, this]
  · rw [if_neg h, stk_none (K := [i]), List.append_nil]
    intro u hu
    simp at hu; subst hu
    rw [hwi]; unfold takes
    have e1 : ((q : Int) == (a : Int)) = false := by simp; omega
    have e2 : ((q : Int) == (a : Int) + 1) = false := by simp; omega
    rw [e1, e2]; rfl
/-- the kept works, as the last loop gathers them -/
def inK (K : List Nat) (j : Nat) : Bool := K.contains j
def upTo (K : List Nat) (n : Nat) : List Nat := (List.range n).filter (inK K)
theorem upTo_succ (K : List Nat) (n : Nat) : upTo K (n + 1) = if inK K n then upTo K n ++ [n] else upTo K n := by
  unfold upTo
  rw [List.range_succ, List.filter_append]
  cases h : inK K n <;> simp [h]
theorem upTo_all {K : List Nat} {n : Nat} (hp : K.Pairwise (· < ·)) (hK : ∀ k ∈ K, k < n) : upTo K n = K := by
  have h1 : (upTo K n).Pairwise (· < ·) := List.Pairwise.filter _ List.pairwise_lt_range
  have h2 : ∀ k, k ∈ upTo K n ↔ k ∈ K := fun k => by
    unfold upTo inK
    rw [List.mem_filter, List.mem_range, List.contains_iff_mem]
    exact ⟨fun h => h.2, fun h => ⟨hK k h, h⟩⟩
  exact List.Perm.eq_of_pairwise (le := (· < ·)) (fun a b _ _ h1 h2 => by omega) h1 hp ((List.perm_ext_iff_of_nodup (h1.imp (fun h => by omega)) (hp.imp (fun h => by omega))).2 h2)
end Go.Proofs.Ytnjenggijmbhcaa
