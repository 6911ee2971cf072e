/-
  The net of a list of works, as the document defines it: plain definitions and lemmas.
-/
import Derived.Test.YtnjenggijmbhcaaOwn
import Derived.Test.YtnjenggijmbhcaaR03b
namespace Go.Proofs.Ytnjenggijmbhcaa
open Go.RowKit
def wat (l : List Wk) (k : Nat) : Int := match l[k]? with | some x => x.at_ | none => 0
theorem wat_get {l : List Wk} {k : Nat} {x : Wk} (h : l[k]? = some x) : wat l k = x.at_ := by unfold wat; rw [h]
/-- the last of the first m works that touches the place a; -1: none -/
def lastPos (l : List Wk) (a : Int) : Nat → Int
  | 0 => -1
  | m + 1 => if touch (wat l m) a then m else lastPos l a m
theorem lastPos_lt (l : List Wk) (a : Int) (m : Nat) : -1 ≤ lastPos l a m ∧ lastPos l a m < m := by
  induction m with
  | zero => simp [lastPos]
  | succ m ih => unfold lastPos; split <;> omega
/-- a work in place a takes place q -/
def takes (a : Int) (q : Nat) : Bool := (q : Int) == a || (q : Int) == a + 1
theorem touch_takes (a : Nat) (b : Int) : touch a b = (takes b a || takes b (a + 1)) := by
  unfold touch takes
  rw [Bool.eq_iff_iff]
  simp only [Bool.and_eq_true, decide_eq_true_eq, Bool.or_eq_true, beq_iff_eq]
  omega
def undoW (x : Wk) : Wk := ⟨x.kind, x.at_, invW x.word⟩
def netStep (l : List Wk) (x : Wk) : List Wk :=
  if 0 ≤ lastPos l x.at_ l.length ∧ l[(lastPos l x.at_ l.length).toNat]? = some (undoW x) then l.eraseIdx (lastPos l x.at_ l.length).toNat else l ++ [x]
def netTo (ws : List Wk) (k : Nat) : List Wk := (ws.take k).foldl netStep []
theorem netTo_zero (ws : List Wk) : netTo ws 0 = [] := rfl
theorem netTo_succ {ws : List Wk} {k : Nat} {x : Wk} (h : ws[k]? = some x) : netTo ws (k + 1) = netStep (netTo ws k) x := by
  unfold netTo
  rw [List.take_add_one, h, List.foldl_append]
  rfl
theorem netTo_all (ws : List Wk) (k : Nat) (h : ws.length ≤ k) : netTo ws k = netTo ws ws.length := by
  unfold netTo; rw [List.take_of_length_le h, List.take_of_length_le (Nat.le_refl _)]
def netL (ws : List Wk) : List Wk := netTo ws ws.length
theorem netStep_len (l : List Wk) (x : Wk) : (netStep l x).length ≤ l.length + 1 := by
  unfold netStep
  split
  · rw [List.length_eraseIdx]; split <;> omega
  · simp
theorem netStep_mem {l : List Wk} {x y : Wk} (h : y ∈ netStep l x) : y ∈ l ∨ y = x := by
  unfold netStep at h
  split at h
  · exact .inl (List.mem_of_mem_eraseIdx h)
  · simpa using h
theorem netTo_len (ws : List Wk) (k : Nat) : (netTo ws k).length ≤ k := by
  induction k with
  | zero => simp [netTo]
  | succ k ih =>
    rcases Nat.lt_or_ge k ws.length with h | h
    · obtain ⟨x, hx⟩ := get_of_lt h
      rw [netTo_succ hx]
      have := netStep_len (netTo ws k) x
      omega
    · rw [netTo_all ws (k + 1) (by omega), ← netTo_all ws k h]; omega
theorem netTo_mem {ws : List Wk} {k : Nat} {y : Wk} (h : y ∈ netTo ws k) : y ∈ ws := by
  induction k with
  | zero => simp [netTo] at h
  | succ k ih =>
    rcases Nat.lt_or_ge k ws.length with hk | hk
    · obtain ⟨x, hx⟩ := get_of_lt hk
      rw [netTo_succ hx] at h
      rcases netStep_mem h with h | h
      · exact ih h
      · rw [h]; exact mem_of_get hx
    · rw [netTo_all ws (k + 1) (by omega), ← netTo_all ws k hk] at h; exact ih h
end Go.Proofs.Ytnjenggijmbhcaa
