/-
  Contracts of the functions of torchonref03 (words of moves) that look at letters.
-/
import Derived.Test.YtpljaoagiaijiaaBase
namespace Go.Proofs.Ytpljaoagiaijiaa
open Go.RowKit
set_option maxHeartbeats 400000 in
theorem index03 (s : ByteArray) (c : UInt8) (w : World) (hs : s.size ≤ 1000) :
    Calls Try.prog 63 #[.string s, .int .u8 c.toNat] w fun e w' => e = .returned (.int .i64 (idxOf s.data.toList c)) ∧ w = w' := by
  go_enter Try.func63, Try.ntmps63
  go_wp2
  go_loop [5] (fun i => ∃ k : Nat, k ≤ s.size ∧ i = .int .i64 k ∧ ∀ j, j < k → s.data.toList[j]? ≠ some c) (fun i => s.size - (intOf i).toNat)
  case atStart => exact ⟨0, Nat.zero_le _, rfl, fun j hj => absurd hj (by omega)⟩
  case round =>
    obtain ⟨k, hk, rfl, hno⟩ := hrel
    have H := Lib.hid hno; clear hno
    by_cases hlt : k < s.size
    · go_wp2
      · go_ret
        exact ⟨ret_int (idxOf_some (idx_split ((str_get s k hlt).trans (congrArg some (byte_eq (by assumption)))) H.out)).symm, rfl⟩
      · go_round
        case rel => exact ⟨k + 1, by omega, by go_num, fun j hj => by
          rcases Nat.lt_or_ge j k with h | h
          · exact H.out j h
          · obtain rfl : j = k := by omega
            rw [str_get s j hlt]
            intro he
            exact byte_ne (by assumption) (Option.some.inj he)⟩
        case measure => simp [intOf]; omega
    · go_wp2
      go_ret
      exact ⟨ret_int (idxOf_none (idx_none fun j hj => H.out j (by rw [str_len] at hj; omega))).symm, rfl⟩

theorem index03_let (c : UInt8) (w : World) :
    Calls Try.prog 63 #[.string ⟨#[67, 84, 76, 82, 80, 99, 116, 108, 114]⟩, .int .u8 c.toNat] w fun e w' => e = .returned (.int .i64 (idxOf letters c)) ∧ w = w' :=
  index03 ⟨#[67, 84, 76, 82, 80, 99, 116, 108, 114]⟩ c w (by decide)

set_option maxHeartbeats 400000 in
theorem check03 (s : ByteArray) (w : World) (hs : s.size ≤ 9223372036854775807) :
    Calls Try.prog 43 #[.string s] w fun e w' => e = .returned (.int .i64 (wchk s)) ∧ w = w' := by
  by_cases hl : 16 < s.size
  · go_enter Try.func43, Try.ntmps43
    go_wp2
    go_ret
    exact ⟨ret_int (wchk_long hl).symm, rfl⟩
  have hl' : s.size ≤ 16 := by omega
  go_enter Try.func43, Try.ntmps43
  go_wp2
  go_loop [3] (fun i => ∃ k : Nat, k ≤ s.size ∧ i = .int .i64 k ∧ ∀ j, ∀ hj : j < s.size, j < k → isLet s[j] = true) (fun i => s.size - (intOf i).toNat)
  case atStart => exact ⟨0, Nat.zero_le _, rfl, fun j _ hj => absurd hj (by omega)⟩
  case round =>
    obtain ⟨k, hk, rfl, hno⟩ := hrel
    have H := Lib.hid hno; clear hno
    by_cases hlt : k < s.size
    · by_cases hc : 0 ≤ idxOf letters s[k]
      · go_wp2_with (go_at_call 63; refine (index03_let _ _).mono ?_; rintro e w' ⟨rfl, rfl⟩)
        go_round
        case rel => exact ⟨k + 1, by omega, by go_num, fun j hs' hj => by
          rcases Nat.lt_or_ge j k with h | h
          · exact H.out j hs' h
          · obtain rfl : j = k := by omega
            exact (isLet_iff _).2 hc⟩
        case measure => simp [intOf]; omega
      · have hc' : idxOf letters s[k] < 0 := by omega
        go_wp2_with (go_at_call 63; refine (index03_let _ _).mono ?_; rintro e w' ⟨rfl, rfl⟩)
        go_ret
        exact ⟨ret_int (wchk_bad hl' (wOk_not hlt (idx_no hc'))).symm, rfl⟩
    · go_wp2
      go_ret
      exact ⟨ret_int (wchk_ok hl' (wOk_of fun j hj => H.out j hj (by omega))).symm, rfl⟩

end Go.Proofs.Ytpljaoagiaijiaa
