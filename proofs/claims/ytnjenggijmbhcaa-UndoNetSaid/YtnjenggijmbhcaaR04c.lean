/-
  Contract of torchonref04.Same: two sheets are equal.
-/
import Derived.Test.YtnjenggijmbhcaaEq
namespace Go.Proofs.Ytnjenggijmbhcaa
open Go.RowKit
attribute [local go_sem 10000] neq_wk
set_option maxRecDepth 100000 in
set_option maxHeartbeats 400000 in
theorem same04 (p q : Int) (A B : Option Addr) (n m c d : Nat) (xs ys : List Wk) (w : World) (hn : n ≤ 9223372036854775807) (hm : m ≤ 9223372036854775807) (hx : RdW w w.heap.size A xs) (hy : RdW w w.heap.size B ys) (hl : xs.length = n) (hl' : ys.length = m) :
    Calls Try.prog 18 #[.agg #[.int .i64 p, .slice A n c], .agg #[.int .i64 q, .slice B m d]] w fun e w' => e = .returned (.bool (p == q && xs == ys)) ∧ Below w.heap.size w w' := by
  have HX := Lib.hid hx; clear hx
  have HY := Lib.hid hy; clear hy
  have HL := Lib.hid hl; clear hl
  have HM := Lib.hid hl'; clear hl'
  by_cases hpq : p = q
  · subst hpq
    by_cases hnm : n = m
    · subst hnm
      go_enter Try.func18, Try.ntmps18
      go_wp2
      go_loopw [5] (fun i wr => ∃ k : Nat, k ≤ n ∧ i = .int .i64 k ∧ Below w.heap.size w wr ∧ wr.cell? ⟨w.heap.size, 1, none⟩ = some (.slice A n c) ∧ wr.cell? ⟨w.heap.size + 1, 1, none⟩ = some (.slice B n d) ∧ (∀ (j : Nat) (x : Wk), j < k → xs[j]? = some x → ys[j]? = some x)) (fun i _ => n - (intOf i).toNat)
      case atStart => exact ⟨0, Nat.zero_le _, rfl, by go_grown, by go_simp, by go_simp, fun j _ hj => absurd hj (by omega)⟩
      case round =>
        obtain ⟨k, hk, rfl, hbw, d1, d2, hno⟩ := hrel
        have H := Lib.hid hno; clear hno
        by_cases hlt : k < n
        · obtain ⟨x, hx⟩ := get_of_lt (l := xs) (k := k) (by rw [HL.out]; exact hlt)
          obtain ⟨y, hy⟩ := get_of_lt (l := ys) (k := k) (by rw [HM.out]; exact hlt)
          obtain ⟨b, o, rfl, hb, c1, c2, c3⟩ := (HX.out.below hbw (Nat.le_refl _)) k x hx
          obtain ⟨b', o', rfl, hb', c1', c2', c3'⟩ := (HY.out.below hbw (Nat.le_refl _)) k y hy
          have HX' := Lib.hid hx; clear hx
          have HY' := Lib.hid hy; clear hy
          have e2 := wkGuard
          go_wp2
          go_quiet (fail)
          go_wp2
          · go_ret
            exact ⟨ret_bool (by rw [beq_self_eq_true, Bool.true_and]; exact beq_false (ne_of_get HX'.out HY'.out (by simpa using ‹(!x == y) = true›))), below_drewN hbw _⟩
          · go_roundw
            case rel => exact ⟨k + 1, by omega, by go_num, below_drewN hbw _, by go_simp, by go_simp, pw_step H.out HX'.out HY'.out (by simpa using ‹(!x == y) = false›)⟩
            case measure => simp [intOf]; omega
        · go_wp2
          go_ret
          exact ⟨ret_bool (by rw [beq_self_eq_true, Bool.true_and]; exact beq_true (eq_of_get (by rw [HL.out, HM.out]) (fun j x hx => H.out j x (by have := lt_of_get hx; rw [HL.out] at this; omega) hx))), hbw⟩
    · go_enter Try.func18, Try.ntmps18
      go_wp2
      go_ret
      exact ⟨ret_bool (by rw [beq_self_eq_true, Bool.true_and]; exact beq_false (ne_of_len HL.out HM.out hnm)), by go_grown⟩
  · go_enter Try.func18, Try.ntmps18
    go_wp2
    go_ret
    exact ⟨ret_bool (by rw [show (p == q) = false by simpa using hpq]; rfl), by go_grown⟩
end Go.Proofs.Ytnjenggijmbhcaa
