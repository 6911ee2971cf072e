/-
  Contracts: torchonref04.SameInts (for seats without the law of chapter 21).
-/
import Derived.Test.YtpljaoagiaijiaaOwn
import Derived.BigQuiet
namespace Go.Proofs.Ytpljaoagiaijiaa
open Go.RowKit
theorem sameInts04 (A B : Option Addr) (n m c d : Nat) (xs ys : List Int) (w : World) (hn : n ≤ 9223372036854775807) (hm : m ≤ 9223372036854775807) (hx : RdI w w.heap.size A xs) (hy : RdI w w.heap.size B ys) (hl : xs.length = n) (hl' : ys.length = m) :
    Calls Try.prog 19 #[.slice A n c, .slice B m d] w fun e w' => e = .returned (.bool (xs == ys)) ∧ Below w.heap.size w w' := by
  have HX := Lib.hid hx; clear hx
  have HY := Lib.hid hy; clear hy
  have HL := Lib.hid hl; clear hl
  have HM := Lib.hid hl'; clear hl'
  by_cases hnm : n = m
  · subst hnm
    go_enter Try.func19, Try.ntmps19
    go_wp2
    go_loopw [5] (fun i wr => ∃ k : Nat, k ≤ n ∧ i = .int .i64 k ∧ Below w.heap.size w wr ∧ (∀ (j : Nat) (x : Int), j < k → xs[j]? = some x → ys[j]? = some x)) (fun i _ => n - (intOf i).toNat)
    case atStart => exact ⟨0, Nat.zero_le _, rfl, by go_grown, fun j _ hj => absurd hj (by omega)⟩
    case round =>
      obtain ⟨k, hk, rfl, hbw, hno⟩ := hrel
      have H := Lib.hid hno; clear hno
      by_cases hlt : k < n
      · obtain ⟨x, hx⟩ := get_of_lt (l := xs) (k := k) (by rw [HL.out]; exact hlt)
        obtain ⟨y, hy⟩ := get_of_lt (l := ys) (k := k) (by rw [HM.out]; exact hlt)
        obtain ⟨b, o, rfl, hb, c1⟩ := (HX.out.below hbw (Nat.le_refl _)) k x hx
        obtain ⟨b', o', rfl, hb', c1'⟩ := (HY.out.below hbw (Nat.le_refl _)) k y hy
        have HX' := Lib.hid hx; clear hx
        have HY' := Lib.hid hy; clear hy
        go_wp2
        go_quiet (fail)
        go_wp2
        · go_ret
          exact ⟨ret_bool (beq_false (ne_of_get HX'.out HY'.out (by simpa using ‹(x != y) = true›))), below_drewN hbw _⟩
        · go_roundw
          case rel => exact ⟨k + 1, by omega, by go_num, below_drewN hbw _, pw_step H.out HX'.out HY'.out (by simpa using ‹(x != y) = false›)⟩
          case measure => simp [intOf]; omega
      · go_wp2
        go_ret
        exact ⟨ret_bool (beq_true (eq_of_get (by rw [HL.out, HM.out]) (fun j x hx => H.out j x (by have := lt_of_get hx; rw [HL.out] at this; omega) hx))), hbw⟩
  · go_enter Try.func19, Try.ntmps19
    go_wp2
    go_ret
    exact ⟨ret_bool (beq_false (ne_of_len HL.out HM.out hnm)), by go_grown⟩
end Go.Proofs.Ytpljaoagiaijiaa
