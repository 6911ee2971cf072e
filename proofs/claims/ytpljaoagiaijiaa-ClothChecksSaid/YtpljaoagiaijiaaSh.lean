/-
  Contract of sheet.Check, and of slices.ContainsFunc over works with Check's closure.
-/
import Derived.Test.YtpljaoagiaijiaaSt
namespace Go.Proofs.Ytpljaoagiaijiaa
open Go.RowKit
theorem shCheck1 (k a : Int) (s : ByteArray) (w : World) (hs : s.size ≤ 9223372036854775807) :
    Calls Try.prog 60 #[.agg #[.int .i64 k, .int .i64 a, .string s]] w fun e w' => e = .returned (.bool (decide (16 < s.size))) ∧ Below w.heap.size w w' := by
  go_enter Try.func60, Try.ntmps60
  go_wp2
  go_ret
  exact ⟨ret_bool (by simp; omega), by go_grown⟩
/-- some work before the k-th has a long word -/
def someLong (ws : List Wk) : Bool := ws.any fun x => decide (16 < x.word.size)
set_option maxRecDepth 100000 in
set_option maxHeartbeats 400000 in
theorem indexFunc1 (A : Option Addr) (n c : Nat) (ws : List Wk) (w : World) (hn : n ≤ 9223372036854775807) (hw : RdW w w.heap.size A ws) (hl : ws.length = n)
    (hs : ∀ x ∈ ws, x.word.size ≤ 9223372036854775807) :
    Calls Try.prog 70 #[.slice A n c, .func (.func 60) #[] #[]] w fun e w' => ∃ i : Int, e = .returned (.int .i64 i) ∧ decide (0 ≤ i) = someLong ws ∧ Below w.heap.size w w' := by
  have HW := Lib.hid hw; clear hw
  have HL := Lib.hid hl; clear hl
  have HS := Lib.hid hs; clear hs
  go_enter Try.func70, Try.ntmps70
  go_wp2
  go_loopw [8] (fun i wr => ∃ k : Nat, k ≤ n ∧ i = .int .i64 k ∧ Below w.heap.size w wr ∧ (∀ (j : Nat) (x : Wk), j < k → ws[j]? = some x → x.word.size ≤ 16)) (fun i _ => n - (intOf i).toNat)
  case atStart => exact ⟨0, Nat.zero_le _, rfl, by go_grown, fun j _ hj => absurd hj (by omega)⟩
  case round =>
    obtain ⟨k, hk, rfl, hbw, hno⟩ := hrel
    have H := Lib.hid hno; clear hno
    by_cases hlt : k < n
    · obtain ⟨x, hx⟩ := get_of_lt (l := ws) (k := k) (by rw [HL.out]; exact hlt)
      obtain ⟨b, o, rfl, hb, c1, c2, c3⟩ := (HW.out.below hbw (Nat.le_refl _)) k x hx
      have hsx := HS.out x (mem_of_get hx)
      have HX := Lib.hid hx; clear hx
      go_wp2_with (go_at_call 60; refine (shCheck1 _ _ _ _ hsx).mono ?_; rintro e w1 ⟨rfl, hb1⟩)
      · go_ret
        exact ⟨_, rfl, by
          have h16 : 16 < x.word.size := by assumption
          rw [show someLong ws = true from List.any_eq_true.2 ⟨x, mem_of_get HX.out, by simpa using h16⟩]; simp, hbw.trans (hb1.mono hbw.size)⟩
      · go_roundw
        case rel => exact ⟨k + 1, by omega, by go_num, hbw.trans (hb1.mono hbw.size), get_step H.out HX.out (by omega)⟩
        case measure => simp [intOf]; omega
    · go_wp2
      go_ret
      exact ⟨_, rfl, by
        have : someLong ws = false := by
          unfold someLong
          rw [List.any_eq_false]
          intro x hx
          obtain ⟨j, hj, rfl⟩ := List.mem_iff_getElem.1 hx
          have := H.out j _ (by rw [HL.out] at hj; omega) (List.getElem?_eq_getElem hj)
          simp; omega
        rw [this]; simp, hbw⟩
theorem containsFunc1 (A : Option Addr) (n c : Nat) (ws : List Wk) (w : World) (hn : n ≤ 9223372036854775807) (hw : RdW w w.heap.size A ws) (hl : ws.length = n)
    (hs : ∀ x ∈ ws, x.word.size ≤ 9223372036854775807) :
    Calls Try.prog 59 #[.slice A n c, .func (.func 60) #[] #[]] w fun e w' => e = .returned (.bool (someLong ws)) ∧ Below w.heap.size w w' := by
  go_enter Try.func59, Try.ntmps59
  go_wp2_with (go_at_call 70; refine (indexFunc1 _ _ _ _ _ hn hw hl hs).mono ?_; rintro e w' ⟨i, rfl, hi, hb⟩; have HI := Lib.hid hi; clear hi)
  go_ret
  exact ⟨ret_bool (by rw [← HI.out]; try simp), hb⟩
end Go.Proofs.Ytpljaoagiaijiaa
