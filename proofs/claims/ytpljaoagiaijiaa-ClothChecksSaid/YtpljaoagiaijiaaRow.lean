/-
  Memory words: a block of slices, each the call's own row of ints.
-/
import Derived.Test.YtpljaoagiaijiaaFst
import Derived.Test.YtpljaoagiaijiaaMki
namespace Go.Proofs.Ytpljaoagiaijiaa
open Go.RowKit
/-- block g holds the slices Vs; slice q is the own row of rows q; no two share a block -/
structure RowsSt (W : World) (g base : Nat) (Vs : List Value) (rows : List (List Int)) : Prop where
  has : Has W g 35 Vs
  len : Vs.length = rows.length
  own : ∀ (q : Nat) (v : Value) (r : List Int), Vs[q]? = some v → rows[q]? = some r → W.ownsRow base 3 1 v r.length (r.map vInt)
  apart : ∀ (q q' : Nat) (v v' : Value), q ≠ q' → Vs[q]? = some v → Vs[q']? = some v' → ∀ b, v.ownBlock = some b → v'.ownBlock ≠ some b
  lo : g < base
theorem RowsSt.below {W W' : World} {g base : Nat} {Vs : List Value} {rows : List (List Int)} (h : RowsSt W g base Vs rows) (k : Below W.heap.size W W') : RowsSt W' g base Vs rows :=
  ⟨h.has.below k h.has.lt, h.len, fun q v r hv hr => own_below (h.own q v r hv hr) k, h.apart, h.lo⟩
/-- a number is put behind row q: the row grows (in place, or in a new block), and the slice is stored -/
theorem RowsSt.pushed {W W' : World} {g base q : Nat} {Vs : List Value} {rows : List (List Int)} (h : RowsSt W g base Vs rows) {v v' : Value} {r : List Int} {x : Int} (hv : Vs[q]? = some v) (hr : rows[q]? = some r) (ho : W'.ownsRow base 3 1 v' (r.length + 1) (r.map vInt ++ [vInt x])) (k : W.grownBy W' v.ownBlock)
    (hnew : ∀ b, v'.ownBlock = some b → some b = v.ownBlock ∨ W.heap.size ≤ b) : RowsSt (W'.setCell ⟨g, q, none⟩ v') g base (Vs.set q v') (rows.set q (r ++ [x])) := by
  have hne : v.ownBlock ≠ some g := fun e => by have := ((h.own q v r hv hr).lt g e).1; have := h.lo; omega
  have hg : Has W' g _ _ := h.has.same (k.block g h.has.lt (fun e => hne e.symm))
  have hB := But.set g W' q v'
  have hq := lt_of_get hv
  have hq2 := lt_of_get hr
  refine ⟨hg.set q v', by rw [List.length_set, List.length_set]; exact h.len, ?_, ?_, h.lo⟩
  · intro p u s hu hs
    rw [List.getElem?_set] at hu hs
    by_cases e : q = p
    · subst e
      rw [if_pos rfl, if_pos hq] at hu
      rw [if_pos rfl, if_pos hq2] at hs
      injection hu with hu; injection hs with hs
      subst hu; subst hs
      have : (r ++ [x]).map vInt = r.map vInt ++ [vInt x] := by simp
      rw [this, show (r ++ [x]).length = r.length + 1 by simp]
      exact hB.own ho (fun e => by have := (ho.lt g e).1; have := h.lo; omega)
    · rw [if_neg e] at hu hs
      have h1 := h.own p u s hu hs
      have h2 : W'.ownsRow base 3 1 u s.length (s.map vInt) := h1.kept k (by
        cases hub : u.ownBlock with
        | none => exact .inl rfl
        | some b => exact .inr (fun eb => h.apart p q u v (Ne.symm e) hu hv b hub eb.symm))
      exact hB.own h2 (fun e => by have := (h2.lt g e).1; have := h.lo; omega)
  · intro p p' u u' hpp hu hu' b hb hb'
    rw [List.getElem?_set] at hu hu'
    by_cases e : q = p
    · subst e
      rw [if_pos rfl, if_pos hq] at hu
      rw [if_neg hpp] at hu'
      injection hu with hu
      subst hu
      rcases hnew b hb with hh | hh
      · exact h.apart q p' v u' hpp hv hu' b hh.symm hb'
      · obtain ⟨s, hs⟩ := get_of_lt (l := rows) (k := p') (by rw [← h.len]; exact lt_of_get hu')
        have := (h.own p' u' s hu' hs).lt b hb'
        omega
    · rw [if_neg e] at hu
      by_cases e' : q = p'
      · subst e'
        rw [if_pos rfl, if_pos hq] at hu'
        injection hu' with hu'
        subst hu'
        rcases hnew b hb' with hh | hh
        · exact h.apart p q u v hpp hu hv b hb hh.symm
        · obtain ⟨s, hs⟩ := get_of_lt (l := rows) (k := p) (by rw [← h.len]; exact lt_of_get hu)
          have := (h.own p u s hu hs).lt b hb
          omega
      · rw [if_neg e'] at hu'
        exact h.apart p p' u u' hpp hu hu' b hb hb'
/-- the start: nil slices -/
theorem RowsSt.start {W : World} {g base T : Nat} (h : Has W g 35 (List.replicate T (.slice none 0 0))) (hl : g < base) : RowsSt W g base (List.replicate T (.slice none 0 0)) (List.replicate T []) := by
  refine ⟨h, by simp, ?_, ?_, hl⟩
  · intro q v r hv hr
    rw [List.getElem?_replicate] at hv hr
    by_cases hq : q < T
    · rw [if_pos hq] at hv hr
      injection hv with hv
      injection hr with hr
      rw [← hv, ← hr]
      exact World.ownsRow_nil _ _ _ _
    · rw [if_neg hq] at hv; cases hv
  · intro q q' v v' _ hv _ b hb
    rw [List.getElem?_replicate] at hv
    split at hv
    · injection hv with hv; subst hv; simp [Value.ownBlock] at hb
    · cases hv
/-- the sets of the first m threads, by least thread -/
def grpTo (xs : List Q4) (T m : Nat) : List (List Int) := (List.range T).map (fun k => ((List.range m).filter (fun i => repTo xs xs.length i == k)).map (fun (i : Nat) => (i : Int)))
theorem grpTo_zero (xs : List Q4) (T : Nat) : grpTo xs T 0 = List.replicate T [] := by
  apply List.ext_getElem?
  intro k
  unfold grpTo
  rw [List.getElem?_map, List.getElem?_replicate]
  by_cases h : k < T
  · rw [List.getElem?_range h, if_pos h]; rfl
  · rw [List.getElem?_eq_none (by simpa using h), if_neg h]; rfl
theorem grpTo_get {xs : List Q4} {T m k : Nat} (h : k < T) : (grpTo xs T m)[k]? = some (((List.range m).filter (fun i => repTo xs xs.length i == k)).map (fun (i : Nat) => (i : Int))) := by
  unfold grpTo
  rw [List.getElem?_map, List.getElem?_range h]; rfl
theorem grpTo_succ {xs : List Q4} {T m k : Nat} {r : List Int} (hk : repTo xs xs.length m = k) (hT : k < T) (hr : (grpTo xs T m)[k]? = some r) : grpTo xs T (m + 1) = (grpTo xs T m).set k (r ++ [(m : Int)]) := by
  apply List.ext_getElem?
  intro j
  have hl : (grpTo xs T m).length = T := by unfold grpTo; simp
  rw [List.getElem?_set, hl]
  by_cases hj : j < T
  · rw [grpTo_get hj, grpTo_get hj, List.range_succ, List.filter_append]
    rw [grpTo_get hT] at hr
    injection hr with hr
    by_cases e : k = j
    · subst e
      rw [if_pos rfl, if_pos hT, ← hr]
      simp [hk]
    · rw [if_neg e]
      have : (repTo xs xs.length m == j) = false := by rw [hk]; simpa using e
      simp [this]
  · have e1 : (grpTo xs T (m + 1))[j]? = none := by rw [List.getElem?_eq_none]; unfold grpTo; simp; omega
    have e2 : (grpTo xs T m)[j]? = none := by rw [List.getElem?_eq_none]; rw [hl]; omega
    rw [e1, e2]
    by_cases e : k = j
    · omega
    · rw [if_neg e]
theorem setsR_grp (xs : List Q4) (T : Nat) : setsR xs T = (grpTo xs T T).filter (fun l => !l.isEmpty) := rfl
end Go.Proofs.Ytpljaoagiaijiaa
