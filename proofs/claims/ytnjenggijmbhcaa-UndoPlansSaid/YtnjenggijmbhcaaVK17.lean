/-
  Contract of cloth.Check: the document's error.
-/
import Derived.Test.YtnjenggijmbhcaaVK16
import Derived.TacticsIn
import Derived.Laws.StructEq
namespace Go.Proofs.Ytnjenggijmbhcaa
open Go.RowKit
attribute [local go_sem] Oper.semAt_some
theorem next_all {g : Bool} {p : Q4 → Bool} {xs : List Q4} {k : Nat} {x : Q4} {gb r : Bool} (hG : (g && (xs.take k).all p) = gb) (hx : xs[k]? = some x) (hr : p x = r) : (g && (xs.take (k + 1)).all p) = (gb && r) := by
  rw [all_step hx, ← Bool.and_assoc, hG, hr]
theorem okP_r {t : Int} {x : Q4} {r : Bool} (h : (decide (0 ≤ x.b ∧ x.b ≤ t - 2 ∧ 0 ≤ x.a ∧ 0 ≤ x.c ∧ x.c ≤ t - 1 ∧ 0 ≤ x.d ∧ x.d ≤ t - 1 ∧ ¬ x.c = x.d)) = r) : okP t x = r := by
  subst h
  unfold okP
  rw [Bool.eq_iff_iff]
  simp
  omega
theorem okC_r {t : Int} {x : Q4} {r : Bool} (h : (decide (0 ≤ x.b ∧ x.b ≤ t - 2 ∧ 0 ≤ x.a)) = r) : okC t x = r := by
  subst h
  unfold okC
  rw [Bool.eq_iff_iff]
  simp
  omega
end Go.Proofs.Ytnjenggijmbhcaa
/-
  Plain law: the threads that the crossings of a cloth without error name are threads of it.
-/
namespace Go.Proofs.Ytnjenggijmbhcaa
open Go.RowKit
theorem endsTo_rng (xs : List Q4) (T : Nat) : ∀ (k : Nat) (L : List Int), endsTo xs (lineL T) k = some L → ∀ v ∈ L, 0 ≤ v ∧ v < (T : Int)
  | 0, L, h => by
    obtain rfl : lineL T = L := by injection h
    intro v hv
    simp [lineL] at hv
    obtain ⟨j, hj, rfl⟩ := hv
    omega
  | k + 1, L, h => by
    cases hE : endsTo xs (lineL T) k with
    | none => rw [show endsTo xs (lineL T) (k + 1) = none from endsTo_none hE _ (Nat.le_succ k)] at h; cases h
    | some L' =>
      have ih := endsTo_rng xs T k L' hE
      cases hx : xs[k]? with
      | none =>
        have : endsTo xs (lineL T) (k + 1) = none := by
          show (endsTo xs (lineL T) k).bind _ = none
          rw [hE, hx]; rfl
        rw [this] at h; cases h
      | some x =>
        rw [endsTo_succ hE hx] at h
        unfold endStep at h
        split at h
        · rename_i a b ha hb
          split at h
          · injection h with h
            subst h
            intro v hv
            rcases List.mem_or_eq_of_mem_set hv with hv | rfl
            · rcases List.mem_or_eq_of_mem_set hv with hv | rfl
              · exact ih v hv
              · exact ih _ (mem_of_get hb)
            · exact ih _ (mem_of_get ha)
          · cases h
        · cases h
theorem endsTo_some {xs : List Q4} {L : List Int} {n : Nat} (h : (endsTo xs L n).isSome = true) {k : Nat} (hk : k ≤ n) : ∃ L', endsTo xs L k = some L' := by
  cases hE : endsTo xs L k with
  | none => rw [endsTo_none hE _ hk] at h; cases h
  | some L' => exact ⟨L', rfl⟩
theorem ends_rng {t : Int} {xs : List Q4} (h0 : 2 ≤ t) (h : endsOk t xs = true) : ∀ x ∈ xs, (0 ≤ x.c ∧ x.c < t) ∧ (0 ≤ x.d ∧ x.d < t) := fun x hm => by
  obtain ⟨k, hk⟩ := List.mem_iff_getElem?.1 hm
  have hlt := lt_of_get hk
  obtain ⟨L, hL⟩ := endsTo_some h (k := k) (by omega)
  obtain ⟨L', hL'⟩ := endsTo_some h (k := k + 1) (by omega)
  have hr := endsTo_rng xs t.toNat k L hL
  rw [endsTo_succ hL hk] at hL'
  unfold endStep at hL'
  split at hL'
  · rename_i a b ha hb
    split at hL'
    · rename_i hok
      have h1 := hr a (mem_of_get ha)
      have h2 := hr b (mem_of_get hb)
      unfold endOk at hok
      simp at hok
      omega
    · cases hL'
  · cases hL'
theorem ckE_ok {t : Int} {xs ps : List Q4} (h : ckE t xs ps = 0) : 2 ≤ t ∧ t ≤ 48 ∧ xs.length ≤ 20000 ∧ ps.length ≤ 6400 ∧ (∀ x ∈ xs, okC t x = true) ∧ (∀ x ∈ ps, okP t x = true) ∧ endsOk t xs = true := by
  unfold ckE at h
  split at h
  · cases h
  · rename_i h1
    split at h
    · cases h
    · rename_i h2
      split at h
      · cases h
      · rename_i h3
        obtain ⟨p1, p2, p3⟩ := numsOk_parts (t := t) (xs := xs) (ps := ps) (by simpa using h2)
        exact ⟨p1, by omega, by omega, by omega, p2, p3, by simpa using h3⟩
/-- what is known of each crossing of a cloth without error -/
theorem cross_ok {t : Int} {xs ps : List Q4} (h : ckE t xs ps = 0) : ∀ x ∈ xs, ((0 ≤ x.c ∧ x.c < t) ∧ (0 ≤ x.d ∧ x.d < t)) ∧ (0 ≤ x.b ∧ x.b ≤ t - 2) := fun x hm => by
  obtain ⟨h0, _, _, _, h1, _, h2⟩ := ckE_ok h
  refine ⟨ends_rng h0 h2 x hm, ?_⟩
  have := h1 x hm
  unfold okC at this
  simp at this
  omega
end Go.Proofs.Ytnjenggijmbhcaa
/-
  Contracts of chapter 17: slices.Contains, the threads that are asked for.
-/
namespace Go.Proofs.Ytnjenggijmbhcaa
open Go.RowKit
/-- a thread of the cloth -/
def inT (t n : Int) : Bool := decide (0 ≤ n) && decide (n ≤ t - 1)
/-- are the first k of some threads threads of the cloth, each but once? -/
def thTo (t : Int) (ths : List Int) : Nat → Bool
  | 0 => true
  | k + 1 => thTo t ths k && (match ths[k]? with | some x => inT t x && !(ths.take k).contains x | none => true)
def askET (t : Int) (xs ps : List Q4) (ths : List Int) : Int := if ckE t xs ps = 0 then (if thTo t ths ths.length = true then 0 else 2) else ckE t xs ps
theorem thTo_succ {t : Int} {ths : List Int} {k : Nat} {x : Int} (h : ths[k]? = some x) : thTo t ths (k + 1) = (thTo t ths k && (inT t x && !(ths.take k).contains x)) := by
  show (thTo t ths k && (match ths[k]? with | some x => inT t x && !(ths.take k).contains x | none => true)) = _
  rw [h]
theorem thTo_no {t : Int} {ths : List Int} {k : Nat} (h : thTo t ths k = false) : ∀ d, thTo t ths (k + d) = false
  | 0 => h
  | d + 1 => by
    have := thTo_no h d
    show (thTo t ths (k + d) && _) = false
    rw [this]; rfl
theorem thTo_bad {t : Int} {ths : List Int} {k : Nat} (h : thTo t ths k = false) (hk : k ≤ ths.length) : thTo t ths ths.length = false := by
  obtain ⟨d, hd⟩ : ∃ d, ths.length = k + d := ⟨ths.length - k, by omega⟩
  rw [hd]; exact thTo_no h d
theorem has_step {l : List Int} {k : Nat} {x v : Int} (hx : l[k]? = some x) : (l.take (k + 1)).contains v = ((l.take k).contains v || (v == x)) := by
  rw [List.take_add_one, hx]
  rw [Bool.eq_iff_iff]
  simp
theorem has_yes {l : List Int} {k : Nat} {x v : Int} (hx : l[k]? = some x) (h : v = x) : l.contains v = true := by
  rw [List.contains_iff_mem, h]; exact mem_of_get hx
theorem rdI_take {w : World} {B k : Nat} {A : Option Addr} {D : List Int} (h : RdI w B A D) : RdI w B A (D.take k) := fun j x hx => by
  have hj := lt_of_get hx
  rw [List.length_take] at hj
  rw [List.getElem?_take_of_lt (by omega)] at hx
  exact h j x hx
end Go.Proofs.Ytnjenggijmbhcaa
/-
  Contracts of chapter 17: the crossings that all of some threads make; Follow and Meet.
-/
namespace Go.Proofs.Ytnjenggijmbhcaa
open Go.RowKit
/-- does a crossing name a thread? -/
def ofP (x : Q4) (n : Int) : Bool := n == x.c || n == x.d
/-- which of the first k crossings name all of some threads -/
def ofTo (xs : List Q4) (ths : List Int) : Nat → List Int
  | 0 => []
  | k + 1 => match xs[k]? with
    | some x => if ths.all (ofP x) = true then ofTo xs ths k ++ [(k : Int)] else ofTo xs ths k
    | none => ofTo xs ths k
def ofR (t : Int) (xs ps : List Q4) (ths : List Int) : List Int := if askET t xs ps ths = 0 then ofTo xs ths xs.length else []
theorem ofTo_yes {xs : List Q4} {ths : List Int} {k : Nat} {x : Q4} (h : xs[k]? = some x) (ha : ths.all (ofP x) = true) : ofTo xs ths (k + 1) = ofTo xs ths k ++ [(k : Int)] := by
  show (match xs[k]? with | some x => if ths.all (ofP x) = true then ofTo xs ths k ++ [(k : Int)] else ofTo xs ths k | none => ofTo xs ths k) = _
  rw [h]; simp only [ha, if_true]
theorem ofTo_no {xs : List Q4} {ths : List Int} {k : Nat} {x : Q4} (h : xs[k]? = some x) (ha : ths.all (ofP x) = false) : ofTo xs ths (k + 1) = ofTo xs ths k := by
  show (match xs[k]? with | some x => if ths.all (ofP x) = true then ofTo xs ths k ++ [(k : Int)] else ofTo xs ths k | none => ofTo xs ths k) = _
  rw [h]; simp only [ha]; rfl
theorem allP_step {p : Int → Bool} {l : List Int} {k : Nat} {x : Int} (hx : l[k]? = some x) : (l.take (k + 1)).all p = ((l.take k).all p && p x) := by
  rw [List.take_add_one, hx]; simp
theorem allP_no {p : Int → Bool} {l : List Int} {k : Nat} {x : Int} (hx : l[k]? = some x) (h : p x = false) : l.all p = false := by
  rw [List.all_eq_false]; exact ⟨x, mem_of_get hx, by rw [h]; simp⟩
end Go.Proofs.Ytnjenggijmbhcaa
