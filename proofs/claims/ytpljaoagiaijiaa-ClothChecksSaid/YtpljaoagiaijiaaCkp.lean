/-
  Plain law: the threads that the crossings of a cloth without error name are threads of it.
-/
import Derived.Test.YtpljaoagiaijiaaChk
namespace Go.Proofs.Ytpljaoagiaijiaa
open Go.RowKit
theorem endsTo_rng (xs : List Q4) (T : Nat) : ∀ (k : Nat) (L : List Int), endsTo xs (lineL T) k = some L → ∀ v ∈ L, 0 ≤ v ∧ v < (T : Int)
  | 0, L, h => by
    obtain rfl : lineL T = L := by injection h
    intro v hv
    simp [lineL] at hv
    obtain ⟨j, hj, rfl⟩ := hv
    omega
  | k + 1, L, h => by
    cases hE : endsTo xs (lineL T) k with
    | none => rw [show endsTo xs (lineL T) (k + 1) = none from endsTo_none hE _ (Nat.le_succ k)] at h; cases h
    | some L' =>
      have ih := endsTo_rng xs T k L' hE
      cases hx : xs[k]? with
      | none =>
        have : endsTo xs (lineL T) (k + 1) = none := by
          show (endsTo xs (lineL T) k).bind _ = none
          rw [hE, hx]; rfl
        rw [this] at h; cases h
      | some x =>
        rw [endsTo_succ hE hx] at h
        unfold endStep at h
        split at h
        · rename_i a b ha hb
          split at h
          · injection h with h
            subst h
            intro v hv
            rcases List.mem_or_eq_of_mem_set hv with hv | rfl
            · rcases List.mem_or_eq_of_mem_set hv with hv | rfl
              · exact ih v hv
              · exact ih _ (mem_of_get hb)
            · exact ih _ (mem_of_get ha)
          · cases h
        · cases h
theorem endsTo_some {xs : List Q4} {L : List Int} {n : Nat} (h : (endsTo xs L n).isSome = true) {k : Nat} (hk : k ≤ n) : ∃ L', endsTo xs L k = some L' := by
  cases hE : endsTo xs L k with
  | none => rw [endsTo_none hE _ hk] at h; cases h
  | some L' => exact ⟨L', rfl⟩
theorem ends_rng {t : Int} {xs : List Q4} (h0 : 2 ≤ t) (h : endsOk t xs = true) : ∀ x ∈ xs, (0 ≤ x.c ∧ x.c < t) ∧ (0 ≤ x.d ∧ x.d < t) := fun x hm => by
  obtain ⟨k, hk⟩ := List.mem_iff_getElem?.1 hm
  have hlt := lt_of_get hk
  obtain ⟨L, hL⟩ := endsTo_some h (k := k) (by omega)
  obtain ⟨L', hL'⟩ := endsTo_some h (k := k + 1) (by omega)
  have hr := endsTo_rng xs t.toNat k L hL
  rw [endsTo_succ hL hk] at hL'
  unfold endStep at hL'
  split at hL'
  · rename_i a b ha hb
    split at hL'
    · rename_i hok
      have h1 := hr a (mem_of_get ha)
      have h2 := hr b (mem_of_get hb)
      unfold endOk at hok
      simp at hok
      omega
    · cases hL'
  · cases hL'
theorem ckE_ok {t : Int} {xs ps : List Q4} (h : ckE t xs ps = 0) : 2 ≤ t ∧ t ≤ 48 ∧ xs.length ≤ 20000 ∧ ps.length ≤ 6400 ∧ (∀ x ∈ xs, okC t x = true) ∧ (∀ x ∈ ps, okP t x = true) ∧ endsOk t xs = true := by
  unfold ckE at h
  split at h
  · cases h
  · rename_i h1
    split at h
    · cases h
    · rename_i h2
      split at h
      · cases h
      · rename_i h3
        obtain ⟨p1, p2, p3⟩ := numsOk_parts (t := t) (xs := xs) (ps := ps) (by simpa using h2)
        exact ⟨p1, by omega, by omega, by omega, p2, p3, by simpa using h3⟩
/-- what is known of each crossing of a cloth without error -/
theorem cross_ok {t : Int} {xs ps : List Q4} (h : ckE t xs ps = 0) : ∀ x ∈ xs, ((0 ≤ x.c ∧ x.c < t) ∧ (0 ≤ x.d ∧ x.d < t)) ∧ (0 ≤ x.b ∧ x.b ≤ t - 2) := fun x hm => by
  obtain ⟨h0, _, _, _, h1, _, h2⟩ := ckE_ok h
  refine ⟨ends_rng h0 h2 x hm, ?_⟩
  have := h1 x hm
  unfold okC at this
  simp at this
  omega
end Go.Proofs.Ytpljaoagiaijiaa
