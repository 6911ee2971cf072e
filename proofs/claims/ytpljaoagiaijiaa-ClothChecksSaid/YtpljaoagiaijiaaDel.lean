/-
  Contract: slices.IndexFunc over slices of ints, with the program's own test for an empty one.
-/
import Derived.Test.YtpljaoagiaijiaaLkd
namespace Go.Proofs.Ytpljaoagiaijiaa
open Go.RowKit
/-- a slice value -/
def isSl (v : Value) : Prop := ∃ A n c, v = .slice A n c ∧ n ≤ c ∧ c ≤ 9223372036854775807
theorem empty56 (A : Option Addr) (n c : Nat) (w : World) (hn : n ≤ 9223372036854775807) : Calls Try.prog 56 #[.slice A n c] w fun e w' => e = .returned (.bool (!neV (.slice A n c))) ∧ w = w' := by
  by_cases h : n = 0
  · subst h
    go_enter Try.func56, Try.ntmps56
    go_wp2
    go_ret
    exact ⟨ret_bool (by simp [neV]), rfl⟩
  · have d1 : ((n : Int) == 0) = false := by rw [beq_eq_false_iff_ne]; omega
    go_enter Try.func56, Try.ntmps56
    go_wp2
    go_ret
    exact ⟨ret_bool (by simp [neV, h]), rfl⟩
/-- where the first empty one is -/
def idxE (Vs : List Value) : Int := match Vs.findIdx? (fun v => !neV v) with | some i => (i : Int) | none => -1
set_option maxRecDepth 100000 in
set_option maxHeartbeats 1000000 in
theorem index69 (g T : Nat) (Vs : List Value) (W : World) (hG : Has W g 35 Vs) (hl : Vs.length = T) (hT : T ≤ 48) (hv : ∀ v ∈ Vs, isSl v) :
    Calls Try.prog 69 #[.slice (some ⟨g, 0, none⟩) T T, .func (.func 56) #[] #[]] W fun e w' => (e = .returned (.int .i64 (-1)) ∧ (∀ v ∈ Vs, neV v = true) ∨ ∃ i : Nat, i < T ∧ e = .returned (.int .i64 (i : Int)) ∧ (∀ (j : Nat) (v : Value), j < i → Vs[j]? = some v → neV v = true) ∧ ∃ v, Vs[i]? = some v ∧ neV v = false) ∧ W = w' := by
  have HG := Lib.hid hG
  have HV := Lib.hid hv
  have HL := Lib.hid hl
  have hg := hG.lt
  clear hG hv hl
  go_enter Try.func69, Try.ntmps69
  go_wp2
  go_loop [8] (fun i => ∃ k : Nat, k ≤ T ∧ i = .int .i64 (k : Int) ∧ Hid (∀ (j : Nat) (v : Value), j < k → Vs[j]? = some v → neV v = true)) (fun i => T - (intOf i).toNat)
  case atStart => exact ⟨0, Nat.zero_le _, rfl, Lib.hid (fun j v hj => absurd hj (by omega))⟩
  case round =>
    obtain ⟨k, hk, rfl, HN⟩ := hrel
    by_cases hlt : k < T
    · obtain ⟨v, hv⟩ := get_of_lt (l := Vs) (k := k) (by rw [HL.out]; exact hlt)
      obtain ⟨A, n, c, rfl, hnc, hc⟩ := HV.out v (mem_of_get hv)
      have c0 : W.cell? ⟨g, k, none⟩ = some (.slice A n c) := (HG.out.cell k).trans hv
      have kT : (k : Int) < (T : Int) := by omega
      have J := Lib.hid (empty56 A n c W (Nat.le_trans hnc hc))
      have HVV := Lib.hid hv
      cases hne : neV (.slice A n c) with
      | true =>
        rw [hne] at J
        have HNE := Lib.hid hne
        clear hv hne
        go_wp2_with fail
        refine J.out.mono ?_
        rintro e w1 ⟨rfl, rfl⟩
        go_wp2
        go_round
        case rel => exact ⟨k + 1, by omega, by go_num, Lib.hid (get_step HN.out HVV.out HNE.out)⟩
        case measure => first | (simp [intOf]; done) | (simp [intOf]; omega)
      | false =>
        rw [hne] at J
        have HNE := Lib.hid hne
        clear hv hne
        go_wp2_with fail
        refine J.out.mono ?_
        rintro e w1 ⟨rfl, rfl⟩
        go_wp2
        go_ret
        exact ⟨.inr ⟨k, hlt, rfl, HN.out, _, HVV.out, HNE.out⟩, rfl⟩
    · obtain rfl : T = k := by omega
      go_wp2
      go_ret
      exact ⟨.inl ⟨rfl, fun v hv => by
        obtain ⟨i, hi, rfl⟩ := List.mem_iff_getElem.1 hv
        exact HN.out i _ (by rw [← HL.out]; exact hi) (List.getElem?_eq_getElem hi)⟩, rfl⟩
end Go.Proofs.Ytpljaoagiaijiaa
