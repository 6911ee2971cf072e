/-
  Plain law of UndoRight: the net of what is done is that of the right sheet.
-/
import Derived.Test.YtnjenggijmbhcaaVE2
import Derived.Test.YtnjenggijmbhcaaVE3
namespace Go.Proofs.Ytnjenggijmbhcaa
open Go.RowKit
theorem mkD_upd (D : Nat → Bool) (i : Nat) : mkD D i = upd D i := funext fun k => by unfold mkD upd; exact Bool.or_comm _ _
theorem wkA_get {a : List Wk} {i : Nat} {x : Wk} (h : a[i]? = some x) : wkA a i = x := by unfold wkA; rw [h]
/-- an order in which each work is ready when it is made -/
def okOrd (a : List Wk) : (Nat → Bool) → List Nat → Prop
  | _, [] => True
  | D, i :: o => i < a.length ∧ rdyQ a D i ∧ okOrd a (mkD D i) o
theorem okOrd_app {a : List Wk} : ∀ {o r : List Nat} {D : Nat → Bool}, okOrd a D o → okOrd a (mkAll D o) r → okOrd a D (o ++ r)
  | [], _, _, _, h => h
  | i :: o, _, D, ⟨h1, h2, h3⟩, h => ⟨h1, h2, okOrd_app (o := o) (D := mkD D i) h3 h⟩
theorem okOrd_lt {a : List Wk} : ∀ {o : List Nat} {D : Nat → Bool}, okOrd a D o → ∀ i ∈ o, i < a.length
  | [], _, _, i, hi => by cases hi
  | j :: o, D, ⟨h1, _, h3⟩, i, hi => by
    rcases List.mem_cons.1 hi with e | e
    · subst e; exact h1
    · exact okOrd_lt h3 i e
theorem sweep_ok {ws : List Wk} {h m : Nat} : ∀ (f : Nat) {D : Nat → Bool}, und ws D ≤ f → okOrd ws D (sweep ws h m D)
  | f, D, hf => by
    cases e : nxt ws D h m with
    | none => rw [sweep_none e]; trivial
    | some i =>
      have hu := nxt_und e
      obtain ⟨f, rfl⟩ : ∃ f', f = f' + 1 := ⟨f - 1, by omega⟩
      rw [sweep_some e]
      obtain ⟨q, _, _, hf2, _⟩ := nxt_some e
      obtain ⟨g1, _, g3⟩ := frt_iff.1 hf2
      exact ⟨g1, g3, sweep_ok f (by omega)⟩
  termination_by f => f
theorem ordQ_ok {ws : List Wk} {k m : Nat} : ∀ f D, okOrd ws D (ordQ ws k m f D)
  | 0, _ => trivial
  | f + 1, D => by
    by_cases h0 : und ws D = 0
    · rw [ordQ_zero h0]; trivial
    · rw [ordQ_succ h0]
      exact okOrd_app (sweep_ok _ (Nat.le_refl _)) (ordQ_ok f _)
theorem ordQ_all {ws : List Wk} {k m : Nat} (hm : 1 ≤ m) (hk : 1 ≤ k) (hr : ∀ i, i < ws.length → 0 ≤ wat ws i ∧ wat ws i < (k : Int) - 1 + m) : ∀ f D, und ws D ≤ f → und ws (mkAll D (ordQ ws k m f D)) = 0
  | 0, D, h => by rw [ordQ_zero (by omega)]; show und ws D = 0; omega
  | f + 1, D, h => by
    by_cases h0 : und ws D = 0
    · rw [ordQ_zero h0]; exact h0
    · have hp := best_pos hm hk hr (by omega : 0 < und ws D)
      have hs := sweep_und (ws := ws) (h := bstQ ws m D k) (m := m) (und ws D) (D := D) (Nat.le_refl _)
      unfold much at hp
      rw [ordQ_succ h0, mkAll_app]
      exact ordQ_all hm hk hr f _ (by omega)
theorem net_take {a : List Wk} {D : Nat → Bool} {i : Nat} (hi : i < a.length) (h : rdyQ a D i) (p r : List Wk) :
    Alike (netL (p ++ (rem a D a.length ++ r))) (netL (p ++ (wkA a i :: (rem a (mkD D i) a.length ++ r)))) := by
  obtain ⟨x, hx⟩ := get_of_lt hi
  obtain ⟨s, e1, e2⟩ := rem_split a D hx h.1 a.length hi
  rw [mkD_upd, e1, e2, wkA_get hx, List.append_assoc, List.cons_append, List.append_assoc]
  refine net_move p (rem a D i) (s ++ r) (fun z hz => ?_)
  obtain ⟨k, h3, h4, h5⟩ := rem_mem.1 hz
  have := h.2 k h3 h4
  rwa [wat_get h5, wat_get hx] at this
theorem net_ord {a : List Wk} : ∀ (o : List Nat) (D : Nat → Bool), okOrd a D o → ∀ p r, Alike (netL (p ++ (rem a D a.length ++ r))) (netL (p ++ (o.map (wkA a) ++ (rem a (mkAll D o) a.length ++ r))))
  | [], D, _, p, r => Alike.refl _
  | i :: o, D, ⟨h1, h2, h3⟩, p, r => by
    refine (net_take h1 h2 p r).trans ?_
    have := net_ord o (mkD D i) h3 (p ++ [wkA a i]) r
    rw [List.append_assoc, List.append_assoc] at this
    exact this
theorem rem_nil {a : List Wk} {D : Nat → Bool} {n : Nat} (h : ∀ i, i < n → D i = true) : rem a D n = [] := by
  cases e : rem a D n with
  | nil => rfl
  | cons z l =>
    obtain ⟨k, h1, h2, _⟩ := rem_mem.1 (show z ∈ rem a D n by rw [e]; exact List.mem_cons_self)
    rw [h k h1] at h2; cases h2
theorem ordR {p s : Nat} {ws : List Wk} (hs : 2 ≤ s ∧ s ≤ p) (hr : ∀ x ∈ ws, 0 ≤ x.at_ ∧ x.at_ ≤ (p : Int) - 2) : ∀ i, i < ws.length → 0 ≤ wat ws i ∧ wat ws i < ((p - s + 1 : Nat) : Int) - 1 + (s - 1 : Nat) := fun i hi => by
  obtain ⟨x, hx⟩ := get_of_lt hi
  have := hr x (mem_of_get hx)
  rw [wat_get hx]
  omega
/-- the order of the quick instructions -/
def qOrd (p s : Nat) (ws : List Wk) : List Nat := ordQ ws (p - s + 1) (s - 1) ws.length noneD
theorem net_quick {p s : Nat} {a : List Wk} (hs : 2 ≤ s ∧ s ≤ p) (hr : ∀ x ∈ a, 0 ≤ x.at_ ∧ x.at_ ≤ (p : Int) - 2) (q r : List Wk) : Alike (netL (q ++ (a ++ r))) (netL (q ++ ((qOrd p s a).map (wkA a) ++ r))) := by
  have h := net_ord (qOrd p s a) noneD (ordQ_ok _ _) q r
  rw [show rem a noneD a.length = a from (rem_none a a.length (Nat.le_refl _)).trans List.take_length] at h
  rw [rem_nil (a := a) (D := mkAll noneD (qOrd p s a)) (n := a.length) (und_zero (ordQ_all (by omega) (by omega) (ordR hs hr) _ _ (by rw [und_none]; exact Nat.le_refl _)))] at h
  exact h
theorem bytes_nil {s : ByteArray} (h : s.size = 0) : s = ⟨#[]⟩ := by
  cases s with | mk a =>
    have : a.size = 0 := h
    rw [Array.size_eq_zero_iff.1 this]
theorem work_step {p : Int} {x : Wk} (h : wkBad p x = false) : workOf (stepOf x) = x := by
  obtain ⟨h1, _, _, h4⟩ := bad_at h
  cases x with | mk k a s =>
    unfold stepOf
    rcases h1 with e | e
    · simp only at e; subst e; rfl
    · simp only at e; subst e
      have := bytes_nil (h4 rfl)
      simp only at this
      subst this; rfl
theorem wks_quick {p s : Nat} {ws : List Wk} (hg : ∀ x ∈ ws, wkBad (p : Int) x = false) : wksOf (quickP p s ws) = (qOrd p s ws).map (wkA ws) := by
  unfold quickP
  rw [wksOf_qkF]
  refine List.map_congr_left fun i hi => ?_
  obtain ⟨x, hx⟩ := get_of_lt (okOrd_lt (ordQ_ok _ _) i hi)
  unfold stepAt
  rw [hx, wkA_get hx]
  exact work_step (hg x (mem_of_get hx))
/-- the indices that are kept -/
def kpU (ws : List Wk) (at_ : Nat) (b : Int) : Nat → List Nat
  | 0 => List.range at_
  | d + 1 => if tch ws b (abU ws at_ b (at_ + 1 + d)) (atOf ws (at_ + 1 + d)) then kpU ws at_ b d else kpU ws at_ b d ++ [at_ + 1 + d]
theorem kpU_ne (ws : List Wk) (at_ : Nat) (b : Int) : ∀ d k, k ∈ kpU ws at_ b d → k ≠ at_
  | 0, k, h => by have := List.mem_range.1 h; omega
  | d + 1, k, h => by
    unfold kpU at h
    split at h
    · exact kpU_ne ws at_ b d k h
    · rcases List.mem_append.1 h with h | h
      · exact kpU_ne ws at_ b d k h
      · have := List.mem_singleton.1 h; omega
theorem take_wk {a : List Wk} {n : Nat} (h : n < a.length) : a.take (n + 1) = a.take n ++ [wkA a n] := by
  obtain ⟨x, hx⟩ := get_of_lt h
  rw [List.take_add_one, hx, wkA_get hx]; rfl
theorem take_range (a : List Wk) : ∀ n, n ≤ a.length → (List.range n).map (wkA a) = a.take n
  | 0, _ => by simp
  | n + 1, h => by rw [List.range_succ, List.map_append, take_range a n (by omega), take_wk (by omega)]; rfl
theorem atOf_wkA {ws : List Wk} {k : Nat} (h : k < ws.length) : atOf ws k = (wkA ws k).at_ := by
  obtain ⟨x, hx⟩ := get_of_lt h
  unfold atOf wkA; rw [hx]
/-- the works that are kept, then those that are undone -/
theorem net_part {ws a : List Wk} {at_ : Nat} {b : Int} (hl : a.length = ws.length) (hat : at_ < ws.length) (hs : ∀ k, k ≠ at_ → wkA a k = wkA ws k) (hb : (wkA a at_).at_ = b ∨ (wkA a at_).at_ = atOf ws at_) :
    ∀ d, at_ + 1 + d ≤ ws.length → ∀ r, Alike (netL (a.take (at_ + 1 + d) ++ r)) (netL ((kpU ws at_ b d).map (wkA a) ++ ((abU ws at_ b (at_ + 1 + d)).map (wkA a) ++ r)))
  | 0, _, r => by
    rw [Nat.add_zero, abU_start, take_wk (by omega)]
    unfold kpU
    rw [take_range a at_ (by omega), List.append_assoc]
    exact Alike.refl _
  | d + 1, hd, r => by
    rw [show at_ + 1 + (d + 1) = (at_ + 1 + d) + 1 by omega, abU_succ _ _ _ _ (by omega), take_wk (by omega)]
    unfold kpU
    have ih := net_part hl hat hs hb d (by omega) (wkA a (at_ + 1 + d) :: r)
    rw [List.append_assoc]
    refine ih.trans ?_
    by_cases ht : tch ws b (abU ws at_ b (at_ + 1 + d)) (atOf ws (at_ + 1 + d)) = true
    · rw [if_pos ht, if_pos ht, List.map_append, List.append_assoc]
      exact Alike.refl _
    · rw [if_neg ht, if_neg ht, List.map_append, List.append_assoc]
      refine net_move _ _ _ (fun z hz => ?_)
      obtain ⟨k, hk, rfl⟩ := List.mem_map.1 hz
      have hkl := abU_lt ws at_ b _ (by omega) k hk
      have hx : (wkA a (at_ + 1 + d)).at_ = atOf ws (at_ + 1 + d) := by rw [hs _ (by omega), atOf_wkA (by omega)]
      have hn : ∀ c, (c = b ∨ c = atOf ws k) → touch c (atOf ws (at_ + 1 + d)) = false := fun c hc => by
        cases hq : touch c (atOf ws (at_ + 1 + d)) with
        | false => rfl
        | true =>
          rw [touch_symm] at hq
          refine absurd (tch_iff.2 ?_) ht
          rcases hc with e | e
          · subst e; exact .inl hq
          · subst e; exact .inr ⟨k, hk, hq⟩
      rw [hx]
      by_cases e : k = at_
      · subst e
        rcases hb with h | h
        · exact hn _ (.inl h)
        · exact hn _ (.inr h)
      · exact hn _ (.inr (by rw [hs k e, atOf_wkA (by omega)]))
theorem abU_head (ws : List Wk) (at_ : Nat) (b : Int) : ∀ d, ∃ t, abU ws at_ b (at_ + 1 + d) = at_ :: t ∧ ∀ k ∈ t, k ≠ at_
  | 0 => ⟨[], by rw [Nat.add_zero, abU_start], by simp⟩
  | d + 1 => by
    obtain ⟨t, h1, h2⟩ := abU_head ws at_ b d
    rw [show at_ + 1 + (d + 1) = (at_ + 1 + d) + 1 by omega, abU_succ _ _ _ _ (by omega)]
    split
    · refine ⟨t ++ [at_ + 1 + d], by rw [h1]; rfl, fun k hk => ?_⟩
      rcases List.mem_append.1 hk with h | h
      · exact h2 k h
      · have := List.mem_singleton.1 h; omega
    · exact ⟨t, h1, h2⟩
theorem wkA_set_ne {ws : List Wk} {at_ k : Nat} {x : Wk} (h : k ≠ at_) : wkA (ws.set at_ x) k = wkA ws k := by
  unfold wkA; rw [List.getElem?_set_ne (by omega)]
theorem wkA_set {ws : List Wk} {at_ : Nat} {x : Wk} (h : at_ < ws.length) : wkA (ws.set at_ x) at_ = x := by
  unfold wkA; rw [List.getElem?_set_self h]
/-- the net of the works, the undoings and what is done again is that of the right sheet -/
theorem net_right28 {p s : Nat} {ws : List Wk} {x : Wk} {at_ : Nat} (hs : 2 ≤ s ∧ s ≤ p) (hok : SOk (p : Int) ws) (hob : SOk (p : Int) [x]) (hat : at_ < ws.length) :
    Alike (netL (ws ++ (wksOf (quickP p s (planU ws (abU ws at_ x.at_ ws.length))) ++ wksOf (quickP p s (planR x ws (abU ws at_ x.at_ ws.length)))))) (netL (ws.set at_ x)) := by
  obtain ⟨d, hd⟩ : ∃ d, ws.length = at_ + 1 + d := ⟨ws.length - (at_ + 1), by omega⟩
  obtain ⟨L, hL⟩ : ∃ L, L = abU ws at_ x.at_ ws.length := ⟨_, rfl⟩
  rw [← hL]
  have hLlt : ∀ k ∈ L, k < ws.length := fun k hk => by rw [hL] at hk; exact abU_lt ws at_ x.at_ _ hat k hk
  have hLl : L.length ≤ 400 := by rw [hL]; have := abU_len ws at_ x.at_ ws.length hat; have := hok.len; omega
  have hLp : 0 < L.length := by rw [hL]; exact abU_pos _ _ _ _
  have okU := planU_ok hok hLlt hLl
  have okR := planR_ok hok hob hLlt hLp hLl
  rw [wks_quick okU.good, wks_quick okR.good]
  have a1 := net_quick (p := p) (s := s) (a := planU ws L) hs (fun y hy => wkBad_at (okU.good y hy)) ws ((qOrd p s (planR x ws L)).map (wkA (planR x ws L)))
  have a2 := net_quick (p := p) (s := s) (a := planR x ws L) hs (fun y hy => wkBad_at (okR.good y hy)) (ws ++ planU ws L) []
  simp only [List.append_nil, List.append_assoc] at a2
  refine a1.symm.trans (a2.symm.trans ?_)
  have b1 := net_part (a := ws) (b := x.at_) rfl hat (fun _ _ => rfl) (.inr (atOf_wkA hat).symm) d (by omega) (planU ws L ++ planR x ws L)
  rw [← hd, List.take_length, ← hL] at b1
  refine b1.trans ?_
  have b2 := net_part (ws := ws) (a := ws.set at_ x) (b := x.at_) (at_ := at_) (by rw [List.length_set]) hat (fun k hk => wkA_set_ne hk) (.inl (by rw [wkA_set hat])) d (by omega) []
  rw [← hd, show (ws.set at_ x).take ws.length = ws.set at_ x from by rw [List.take_of_length_le (by rw [List.length_set]; exact Nat.le_refl _)], ← hL, List.append_nil, List.append_nil] at b2
  refine Alike.trans ?_ b2.symm
  have eK : (kpU ws at_ x.at_ d).map (wkA (ws.set at_ x)) = (kpU ws at_ x.at_ d).map (wkA ws) := List.map_congr_left fun k hk => wkA_set_ne (kpU_ne _ _ _ _ _ hk)
  have eS : L.map (wkA (ws.set at_ x)) = planR x ws L := by
    obtain ⟨t, h1, h2⟩ := abU_head ws at_ x.at_ d
    rw [← hd, ← hL] at h1
    rw [h1]
    unfold planR
    rw [List.map_cons, wkA_set hat, List.tail_cons]
    congr 1
    exact List.map_congr_left fun k hk => wkA_set_ne (h2 k hk)
  have eU : planU ws L = ((L.map (wkA ws)).map undoW).reverse := by
    unfold planU
    rw [List.map_map, ← List.map_reverse]; rfl
  rw [eK, eS, eU]
  exact net_back (L.map (wkA ws)) (fun y hy => by
    obtain ⟨k, hk, rfl⟩ := List.mem_map.1 hy
    exact hok.back _ (wkA_mem (hLlt k hk))) _ _
end Go.Proofs.Ytnjenggijmbhcaa
/-
  Plain law: what Mend returns can be done; the program's errors of instructions are the document's.
-/
namespace Go.Proofs.Ytnjenggijmbhcaa
open Go.RowKit
def hndOf : Int → List Wk → Int
  | h, [] => h
  | h, x :: l => if x.kind = 1 then hndOf x.at_ l else hndOf h l
theorem shE_app {p s : Int} : ∀ (a b : List Wk) (h : Int) (m : Nat), shE p s h m a = 0 → shE p s h m (a ++ b) = shE p s (hndOf h a) (m + (wksOf a).length) b
  | [], b, h, m, _ => rfl
  | x :: a, b, h, m, e => by
    have hd : doE p s h m x = 0 := Decidable.byContradiction fun hne => by rw [shE_err hne] at e; exact hne e
    rw [List.cons_append]
    by_cases k1 : x.kind = 1
    · rw [shE_reach hd k1] at e ⊢
      rw [wksOf_cons_reach k1, shE_app a b _ m e]
      show _ = shE p s (if x.kind = 1 then _ else _) _ _
      rw [if_pos k1]
    · rw [shE_work hd k1] at e ⊢
      rw [wksOf_cons_work k1, shE_app a b _ (m + 1) e, List.length_cons]
      show _ = shE p s (if x.kind = 1 then _ else _) _ _
      rw [if_neg k1, show m + 1 + (wksOf a).length = m + ((wksOf a).length + 1) by omega]
theorem sweep_in {ws : List Wk} {h m : Nat} : ∀ (f : Nat) {D : Nat → Bool}, und ws D ≤ f → ∀ i ∈ sweep ws h m D, i < ws.length ∧ (h : Int) ≤ wat ws i ∧ wat ws i < (h : Int) + m
  | f, D, hf, i, hi => by
    cases e : nxt ws D h m with
    | none => rw [sweep_none e] at hi; cases hi
    | some j =>
      have hu := nxt_und e
      obtain ⟨f, rfl⟩ : ∃ f', f = f' + 1 := ⟨f - 1, by omega⟩
      rw [sweep_some e] at hi
      obtain ⟨q, g1, g2, hf2, _⟩ := nxt_some e
      obtain ⟨g3, g4, _⟩ := frt_iff.1 hf2
      rcases List.mem_cons.1 hi with k | k
      · subst k; exact ⟨g3, by omega, by omega⟩
      · exact sweep_in f (by omega) i k
  termination_by f => f
theorem do_step {p s h : Int} {m : Nat} {x : Wk} (hg : wkBad p x = false) (hw : x.word.size ≤ 16) (ho : wOk x.word = true) (hh : 0 ≤ h ∧ h ≤ x.at_ ∧ x.at_ + 2 ≤ h + s) (hm : m < 400) : doE p s h m (stepOf x) = 0 := by
  obtain ⟨h1, h2, h3, h4⟩ := bad_at hg
  have hb : heldB h s x.at_ = true := decide_eq_true hh
  cases x with | mk k a d =>
    simp only at *
    unfold stepOf
    rcases h1 with e | e
    · subst e
      exact doE_0 (k := 2) (a := a) (d := d) (by rfl) (wchk_ok hw ho) (by omega) (by simp [hb]) (by omega)
    · subst e
      exact doE_0 (k := 3) (a := a) (d := ⟨#[]⟩) (by rfl) (by rfl) (by omega) (by simp [hb]) (by omega)
theorem steps_ok {p s h : Int} {ws : List Wk} (hok : SOk p ws) (h0 : 0 ≤ h) : ∀ (o : List Nat) (m : Nat), (∀ i ∈ o, i < ws.length ∧ h ≤ wat ws i ∧ wat ws i + 2 ≤ h + s) → m + o.length ≤ 400 → ∀ b, shE p s h m (stepsAt ws o ++ b) = shE p s h (m + o.length) b
  | [], m, _, _, b => rfl
  | i :: o, m, ho, hm, b => by
    rw [List.length_cons] at hm
    obtain ⟨h1, h2, h3⟩ := ho i List.mem_cons_self
    obtain ⟨x, hx⟩ := get_of_lt h1
    rw [wat_get hx] at h2 h3
    have hxm := mem_of_get hx
    have hd := do_step (m := m) (hok.good x hxm) (hok.short x hxm) (hok.form x hxm) ⟨h0, h2, h3⟩ (by omega)
    have e : stepsAt ws (i :: o) ++ b = stepOf x :: (stepsAt ws o ++ b) := by
      show stepAt ws i :: (stepsAt ws o ++ b) = _
      unfold stepAt; rw [hx]
    rw [e, shE_work hd (stepOf_kind x), steps_ok hok h0 o (m + 1) (fun j hj => ho j (List.mem_cons_of_mem _ hj)) (by omega) b, List.length_cons, show m + 1 + o.length = m + (o.length + 1) by omega]
theorem qkF_ok {p s : Nat} {ws : List Wk} (hok : SOk (p : Int) ws) (hs : 2 ≤ s ∧ s ≤ p) : ∀ f D (h : Int) (m : Nat), m + (ordQ ws (p - s + 1) (s - 1) f D).length ≤ 400 → shE (p : Int) (s : Int) h m (qkF ws (p - s + 1) (s - 1) f D) = 0
  | 0, D, h, m, _ => rfl
  | f + 1, D, h, m, hm => by
    by_cases h0 : und ws D = 0
    · rw [qkF_zero h0]; rfl
    · rw [ordQ_succ h0, List.length_append] at hm
      have hb := bstQ_lt ws (s - 1) D (p - s)
      have hd : doE (p : Int) (s : Int) h m ⟨1, (bstQ ws (s - 1) D (p - s + 1) : Nat), ⟨#[]⟩⟩ = 0 := doE_0 (by rfl) (by rfl) (by omega) (by simp) (by simp)
      rw [qkF_succ h0, List.cons_append, shE_reach hd rfl]
      show shE _ _ ((bstQ ws (s - 1) D (p - s + 1) : Nat) : Int) m _ = 0
      rw [steps_ok hok (by omega) _ m (fun i hi => by
        obtain ⟨g1, g2, g3⟩ := sweep_in (und ws D) (Nat.le_refl _) i hi
        exact ⟨g1, g2, by omega⟩) (by omega)]
      exact qkF_ok hok hs f _ _ _ (by omega)
theorem quick_ok {p s : Nat} {ws : List Wk} (hok : SOk (p : Int) ws) (hs : 2 ≤ s ∧ s ≤ p) (h : Int) (m : Nat) (hm : m + ws.length ≤ 400) : shE (p : Int) (s : Int) h m (quickP p s ws) = 0 := by
  refine qkF_ok hok hs _ _ h m ?_
  rw [ordQ_len (by omega) (by omega) (ordR hs (fun x hx => wkBad_at (hok.good x hx))) _ _ (by rw [und_none]; exact Nat.le_refl _), und_none]
  exact hm
/-- what Mend returns -/
def mdOut (p span : Int) (l : List Wk) (at_ : Int) (x : Wk) : List Wk := l ++ (plU p span (wksOf l) at_ x ++ plR p span (wksOf l) at_ x)
theorem wks_len_quick {p s : Nat} {ws : List Wk} (hs : 2 ≤ s ∧ s ≤ p) (hr : ∀ x ∈ ws, 0 ≤ x.at_ ∧ x.at_ ≤ (p : Int) - 2) : (wksOf (quickP p s ws)).length = ws.length := by
  have h1 := reach_wks (quickP p s ws)
  have h2 := quickP_len hs hr
  omega
theorem out_ok {p span at_ : Int} {l : List Wk} {x : Wk} (h0 : sheetE p span l = 0) (hE : plE p span (wksOf l) at_ x = 0) (hl : (mdOut p span l at_ x).length ≤ 1000) (hw : (wksOf (mdOut p span l at_ x)).length ≤ 400) : sheetE p span (mdOut p span l at_ x) = 0 := by
  obtain ⟨a1, a2, a3, a4, a5⟩ := sheetE_zero h0
  obtain ⟨b1, b2⟩ := plE_zero hE
  obtain ⟨z1, z2, z3, z4⟩ := askE_zero b1
  have v1 := schk_zero z1
  have v2 := schk_zero z4
  have hs : 2 ≤ span ∧ span ≤ 8 ∧ span ≤ p := of_decide_eq_true a3
  have hat : at_.toNat < (wksOf l).length := by omega
  have hLlt : ∀ j ∈ plL (wksOf l) at_ x, j < (wksOf l).length := fun j hj => abU_lt (wksOf l) at_.toNat x.at_ (wksOf l).length hat j hj
  have hLl : (plL (wksOf l) at_ x).length ≤ 400 := by have := abU_len (wksOf l) at_.toNat x.at_ (wksOf l).length hat; have := v1.len; unfold plL; omega
  have hLp : 0 < (plL (wksOf l) at_ x).length := abU_pos _ _ _ _
  obtain ⟨pn, rfl⟩ : ∃ q : Nat, p = (q : Int) := ⟨p.toNat, by omega⟩
  obtain ⟨sn, rfl⟩ : ∃ q : Nat, span = (q : Int) := ⟨span.toNat, by omega⟩
  have okU := planU_ok v1 hLlt hLl
  have okR := planR_ok v1 v2 hLlt hLp hLl
  have hss : 2 ≤ sn ∧ sn ≤ pn := by omega
  have eU : plU (pn : Int) (sn : Int) (wksOf l) at_ x = quickP pn sn (planU (wksOf l) (plL (wksOf l) at_ x)) := by unfold plU; rw [if_pos hE]; rfl
  have eR : plR (pn : Int) (sn : Int) (wksOf l) at_ x = quickP pn sn (planR x (wksOf l) (plL (wksOf l) at_ x)) := by unfold plR; rw [if_pos hE]; rfl
  unfold mdOut at hl hw ⊢
  rw [eU, eR] at hl hw ⊢
  have lU := wks_len_quick hss (fun y hy => wkBad_at (okU.good y hy))
  have lR := wks_len_quick hss (fun y hy => wkBad_at (okR.good y hy))
  rw [wksOf_app, wksOf_app, List.length_append, List.length_append, lU, lR] at hw
  have qU := quick_ok okU hss (hndOf (-1) l) (0 + (wksOf l).length) (by omega)
  unfold sheetE
  rw [if_neg (by unfold handsE; rw [if_neg (by rw [a3]; simp; omega)]; simp), if_neg (by omega), shE_app l _ _ _ a5, shE_app _ _ _ _ qU]
  exact quick_ok okR hss _ _ (by rw [lU]; omega)
theorem cp_do {p s h h' : Int} {m : Nat} {x : Wk} (_ : 2 ≤ s) (hr : (0 ≤ h ∧ h' = h) ∨ (h = -1 ∧ h' = -s)) (hm : m ≤ 400) : cpE p s h' m x = doE p s h m x := by
  unfold cpE doE
  by_cases c1 : shapeB x.kind x.word = false
  · rw [if_pos c1, if_pos c1]
  rw [if_neg c1, if_neg c1]
  by_cases c2 : wchk x.word ≠ 0
  · rw [if_pos c2, if_pos c2]
  rw [if_neg c2, if_neg c2]
  by_cases c3 : x.at_ < 0 ∨ p - 2 < x.at_ ∨ (x.kind = 1 ∧ p - s < x.at_)
  · rw [if_pos c3, if_pos c3]
  rw [if_neg c3, if_neg c3]
  have e : (x.at_ < h' ∨ h' + s ≤ x.at_ + 1) ↔ heldB h s x.at_ = false := by
    unfold heldB
    rw [decide_eq_false_iff_not]
    rcases hr with ⟨h1, h2⟩ | ⟨h1, h2⟩ <;> omega
  have e5 : (x.kind ≠ 1 ∧ (x.at_ < h' ∨ h' + s ≤ x.at_ + 1)) = (x.kind ≠ 1 ∧ heldB h s x.at_ = false) := propext ⟨fun k => ⟨k.1, e.1 k.2⟩, fun k => ⟨k.1, e.2 k.2⟩⟩
  have e6 : (x.kind ≠ 1 ∧ m = 400) = (x.kind ≠ 1 ∧ 400 ≤ m) := propext ⟨fun k => ⟨k.1, by omega⟩, fun k => ⟨k.1, by omega⟩⟩
  simp only [e5, e6]
theorem cp_all {p s : Int} (hs : 2 ≤ s) : ∀ (l : List Wk) (h h' : Int) (m : Nat), (0 ≤ h ∧ h' = h) ∨ (h = -1 ∧ h' = -s) → m ≤ 400 → cpAll p s h' m l = shE p s h m l
  | [], _, _, _, _, _ => rfl
  | x :: l, h, h', m, hr, hm => by
    have e := cp_do (p := p) (x := x) hs hr hm
    show (if cpE p s h' m x ≠ 0 then _ else if x.kind = 1 then _ else _) = (if doE p s h m x ≠ 0 then _ else if x.kind = 1 then _ else _)
    rw [e]
    by_cases c : doE p s h m x ≠ 0
    · rw [if_pos c, if_pos c]
    rw [if_neg c, if_neg c]
    obtain ⟨_, _, a3, _, _, a6⟩ := doE_at (show doE p s h m x = 0 by omega)
    by_cases k1 : x.kind = 1
    · rw [if_pos k1, if_pos k1]
      exact cp_all hs l _ _ m (.inl ⟨a3, rfl⟩) hm
    · rw [if_neg k1, if_neg k1]
      exact cp_all hs l _ _ (m + 1) hr (by have := (a6 k1).2; omega)
theorem cs_eq (p s : Int) (l : List Wk) : csE p s l = sheetE p s l := by
  unfold csE sheetE handsE
  by_cases c : p < 2 ∨ 24 < p ∨ spB p s = false
  · rw [if_pos c, if_pos c, if_pos (show (7 : Int) ≠ 0 by decide)]
  · rw [if_neg c, if_neg c, if_neg (show ¬ ((0 : Int) ≠ 0) by simp)]
    by_cases c2 : 1000 < l.length
    · rw [if_pos c2, if_pos c2]
    · rw [if_neg c2, if_neg c2]
      have hsp : spB p s = true := by
        cases h : spB p s with
        | true => rfl
        | false => exact absurd (.inr (.inr h)) c
      have hs : 2 ≤ s ∧ s ≤ 8 ∧ s ≤ p := of_decide_eq_true hsp
      exact cp_all hs.1 l (-1) (-s) 0 (.inr ⟨rfl, rfl⟩) (by omega)
end Go.Proofs.Ytnjenggijmbhcaa
