/-
  Contracts of package stitches (words of moves): IndexByte, Check, and of the library's IndexByte beneath.
-/
import Derived.Test.YtpljaoagiaijiaaBase
import Derived.Laws.StandIn
import Derived.Lib.Bytealg
namespace Go.Proofs.Ytpljaoagiaijiaa
open Go.RowKit
theorem indexByte_eq (l : List UInt8) (c : UInt8) : Lib.indexByte l c = idxOf l c := by
  induction l with
  | nil => rfl
  | cons b l ih =>
    unfold Lib.indexByte
    unfold idxOf at ih ⊢
    simp only [List.idxOf?] at ih ⊢
    rw [List.findIdx?_cons]
    cases hb : (b == c) with
    | true => simp
    | false =>
      rw [ih]
      cases h : List.findIdx? (fun x => x == c) l with
      | none => simp
      | some k =>
        have : ¬ ((k : Int) = -1) := by omega
        simp [this]
theorem idxExt (s : ByteArray) (c : UInt8) (w : World) : (callFunc 76 #[.string s, .int .u8 c.toNat]).run Try.prog w = .ok (.value (.int .i64 (idxOf s.data.toList c))) w := by
  rw [run_callFunc_indexByte Try.func76 (by kernel_rfl) (by kernel_rfl) (by kernel_rfl) (by kernel_rfl), Lib.run_indexByteString]
  rw [indexByte_eq]
  have : (c.toNat : Int).toNat.toUInt8 = c := by simp
  rw [this]
  rfl
theorem liteIndex (s : ByteArray) (c : UInt8) (w : World) :
    Calls Try.prog 75 #[.string s, .int .u8 c.toNat] w fun e w' => e = .returned (.int .i64 (idxOf s.data.toList c)) ∧ w = w' := by
  go_enter Try.func75, Try.ntmps75
  go_wp2_with (simp only [idxExt])
  go_ret
  exact ⟨rfl, rfl⟩
theorem strIndex (s : ByteArray) (c : UInt8) (w : World) :
    Calls Try.prog 71 #[.string s, .int .u8 c.toNat] w fun e w' => e = .returned (.int .i64 (idxOf s.data.toList c)) ∧ w = w' := by
  go_enter Try.func71, Try.ntmps71
  go_wp2_with (go_at_call 75; refine (liteIndex _ _ _).mono ?_; rintro e w' ⟨rfl, rfl⟩)
  go_ret
  exact ⟨rfl, rfl⟩
theorem strIndex_let (c : UInt8) (w : World) :
    Calls Try.prog 71 #[.string ⟨#[67, 84, 76, 82, 80, 99, 116, 108, 114]⟩, .int .u8 c.toNat] w fun e w' => e = .returned (.int .i64 (idxOf letters c)) ∧ w = w' :=
  strIndex ⟨#[67, 84, 76, 82, 80, 99, 116, 108, 114]⟩ c w

set_option maxRecDepth 100000 in
set_option maxHeartbeats 400000 in
theorem stCheck (s : ByteArray) (w : World) (hs : s.size ≤ 9223372036854775807) :
    Calls Try.prog 61 #[.string s] w fun e w' => e = .returned (.int .i64 (wchk s)) ∧ w = w' := by
  by_cases hl : 16 < s.size
  · go_enter Try.func61, Try.ntmps61
    go_wp2
    go_ret
    exact ⟨ret_int (wchk_long hl).symm, rfl⟩
  have hl' : s.size ≤ 16 := by omega
  go_enter Try.func61, Try.ntmps61
  go_wp2
  go_loop [9] (fun i => ∃ k : Nat, k ≤ s.size ∧ i = .int .i64 k ∧ ∀ j, ∀ hj : j < s.size, j < k → isLet s[j] = true) (fun i => s.size - (intOf i).toNat)
  case atStart => exact ⟨0, Nat.zero_le _, rfl, fun j _ hj => absurd hj (by omega)⟩
  case round =>
    obtain ⟨k, hk, rfl, hno⟩ := hrel
    have H := Lib.hid hno; clear hno
    by_cases hlt : k < s.size
    · by_cases hc : 0 ≤ idxOf letters s[k]
      · go_wp2_with (go_at_call 71; refine (strIndex_let _ _).mono ?_; rintro e w' ⟨rfl, rfl⟩)
        go_round
        case rel => exact ⟨k + 1, by omega, by go_num, fun j hs' hj => by
          rcases Nat.lt_or_ge j k with h | h
          · exact H.out j hs' h
          · obtain rfl : j = k := by omega
            exact (isLet_iff _).2 hc⟩
        case measure => simp [intOf]; omega
      · have hc' : idxOf letters s[k] < 0 := by omega
        go_wp2_with (go_at_call 71; refine (strIndex_let _ _).mono ?_; rintro e w' ⟨rfl, rfl⟩)
        go_ret
        exact ⟨ret_int (wchk_bad hl' (wOk_not hlt (idx_no hc'))).symm, rfl⟩
    · go_wp2
      go_ret
      exact ⟨ret_int (wchk_ok hl' (wOk_of fun j hj => H.out j hj (by omega))).symm, rfl⟩
end Go.Proofs.Ytpljaoagiaijiaa
