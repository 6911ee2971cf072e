/-
  Contracts of torchonref03: changed, Inverse.
-/
import Derived.Test.YtnjenggijmbhcaaVK1
import Derived.WalkSpells
namespace Go.Proofs.Ytnjenggijmbhcaa
open Go.RowKit
set_option maxRecDepth 100000 in
set_option maxHeartbeats 400000 in
theorem changed03 (s t : ByteArray) (w : World) (hs : s.size ≤ 9223372036854775807) (ht : t.size = 9) (h16 : s.size ≤ 16) (hok : wOk s = true) :
    Calls Try.prog 67 #[.string s, .string t] w fun e w' => e = .returned (.tuple #[.string (chg t.data.toList s), .int .i64 0]) ∧ w = w' := by
  have HC := Lib.hid (wchk_ok h16 hok)
  have HO := Lib.hid hok; clear hok
  have ht1 : t.size ≤ 9 := by omega
  have ht2 : 9 ≤ t.size := by omega
  clear ht
  go_enter Try.func67, Try.ntmps67
  go_wp2_with (go_at_call 43; refine (check03 _ _ hs).mono ?_; rintro e w' ⟨rfl, rfl⟩; rw [HC.out])
  go_loop [7, 8] (fun u i => ∃ k : Nat, k ≤ s.size ∧ i = .int .i64 k ∧ u = .string ⟨(chgTo t.data.toList s k).toArray⟩) (fun _ i => s.size - (intOf i).toNat)
  case atStart => exact ⟨0, Nat.zero_le _, rfl, rfl⟩
  case round =>
    obtain ⟨k, hk, rfl, rfl⟩ := hrel
    by_cases hlt : k < s.size
    · have hl := wOk_get HO.out k hlt
      have h0 := (isLet_iff _).1 hl
      have h8 := idx_lt9 s[k]
      clear hl
      obtain ⟨m, hm⟩ := Int.eq_ofNat_of_zero_le h0
      have hm8 : m ≤ 8 := by omega
      have HM := Lib.hid hm; clear hm h0 h8
      have hcl := chgTo_len t.data.toList s k
      have HT : Hid (chgTo t.data.toList s (k + 1) = chgTo t.data.toList s k ++ [t[m]'(by omega)]) := by
        rw [chgTo_succ _ _ _ hlt, img_at HM.out (by omega)]; rfl
      go_wp2_with (go_at_call 66; refine (index03_let _ _).mono ?_; rintro e w' ⟨rfl, rfl⟩; rw [HM.out])
      go_round
      case rel => exact ⟨k + 1, by omega, by go_num, by rw [HT.out, app_one _ _ _ (by omega)]⟩
      case measure => simp [intOf]; omega
    · go_wp2
      go_ret2
      exact ⟨by rw [chgTo_all _ _ _ (by omega)]; rfl, rfl⟩
set_option maxRecDepth 100000 in
set_option maxHeartbeats 400000 in
theorem changed03_bad (s t : ByteArray) (w : World) (hs : s.size ≤ 9223372036854775807) (h0 : wchk s ≠ 0) :
    Calls Try.prog 67 #[.string s, .string t] w fun e w' => e = .returned (.tuple #[.string ⟨#[]⟩, .int .i64 (wchk s)]) ∧ w = w' := by
  have hne : (wchk s != 0) = true := by simpa using h0
  have hne' : (wchk s == 0) = false := by simpa using h0
  clear h0
  go_enter Try.func67, Try.ntmps67
  go_wp2_with (go_at_call 43; refine (check03 _ _ hs).mono ?_; rintro e w' ⟨rfl, rfl⟩)
  go_ret2
  exact ⟨rfl, rfl⟩
/-- the word that undoes a word; of a word that is none: the empty word -/
def undoes : List UInt8 := [99, 116, 108, 114, 80, 67, 84, 76, 82]
def invW (s : ByteArray) : ByteArray := if wchk s = 0 then ⟨(s.data.toList.map (img undoes)).reverse.toArray⟩ else ⟨#[]⟩
def revTo (s : ByteArray) (k : Nat) : List UInt8 := (s.data.toList.take k).reverse
theorem revTo_succ (s : ByteArray) (k : Nat) (h : k < s.size) : revTo s (k + 1) = s[k] :: revTo s k := by
  unfold revTo
  rw [List.take_add_one, str_get s k h]
  simp
theorem revTo_len (s : ByteArray) (k : Nat) : (revTo s k).length ≤ k := by unfold revTo; simp; omega
theorem revTo_all (s : ByteArray) (k : Nat) (h : s.size ≤ k) : revTo s k = s.data.toList.reverse := by
  unfold revTo; rw [List.take_of_length_le (by rw [str_len]; exact h)]
theorem chg_size (by_ : List UInt8) (s : ByteArray) : (chg by_ s).size = s.size := by
  rw [← str_len, ← str_len]; simp [chg]
set_option maxRecDepth 100000 in
set_option maxHeartbeats 400000 in
theorem inverse03 (s : ByteArray) (w : World) (hs : s.size ≤ 9223372036854775807) :
    Calls Try.prog 44 #[.string s] w fun e w' => e = .returned (.tuple #[.string (invW s), .int .i64 (wchk s)]) ∧ w = w' := by
  by_cases h0 : wchk s = 0
  · obtain ⟨h16, hok⟩ := wchk_zero h0
    have HE : Hid (invW s = ⟨(revTo (chg undoes s) (chg undoes s).size).toArray⟩) := by
      unfold invW
      rw [if_pos h0, revTo_all _ _ (Nat.le_refl _)]
      rfl
    have H0 := Lib.hid h0; clear h0
    have hz : (chg undoes s).size ≤ 16 := by rw [chg_size]; exact h16
    have C := Lib.hid (fun w => changed03 s ⟨#[99, 116, 108, 114, 80, 67, 84, 76, 82]⟩ w hs rfl h16 hok)
    clear hok
    rw [HE.out, H0.out]
    generalize hc : chg undoes s = u at *
    have HC := Lib.hid hc; clear hc
    go_enter Try.func44, Try.ntmps44
    go_wp2_with (go_at_call 67; refine (C.out _).mono ?_; rintro e w' ⟨rfl, rfl⟩; rw [show chg (ByteArray.mk #[99, 116, 108, 114, 80, 67, 84, 76, 82]).data.toList s = u from HC.out])
    go_loop [6, 7] (fun v i => ∃ k : Nat, k ≤ u.size ∧ i = .int .i64 k ∧ v = .string ⟨(revTo u k).toArray⟩) (fun _ i => u.size - (intOf i).toNat)
    case atStart => exact ⟨0, Nat.zero_le _, rfl, rfl⟩
    case round =>
      obtain ⟨k, hk, rfl, rfl⟩ := hrel
      by_cases hlt : k < u.size
      · have hrl := revTo_len u k
        have HR := Lib.hid (revTo_succ u k hlt)
        go_wp2
        go_round
        case rel => exact ⟨k + 1, by omega, by go_num, by rw [HR.out, one_app _ _ _ hlt]⟩
        case measure => simp [intOf]; omega
      · obtain rfl : k = u.size := by omega
        go_wp2
        go_ret2
        exact ⟨rfl, rfl⟩
  · have HE : Hid (invW s = ⟨#[]⟩) := by unfold invW; rw [if_neg h0]; rfl
    rw [HE.out]
    have C := Lib.hid (fun t w => changed03_bad s t w hs h0)
    clear h0
    go_enter Try.func44, Try.ntmps44
    go_wp2_with (go_at_call 67; refine (C.out _ _).mono ?_; rintro e w' ⟨rfl, rfl⟩)
    go_loop [6, 7] (fun v i => i = .int .i64 0 ∧ v = .string ⟨#[]⟩) (fun _ i => (intOf i).toNat)
    case atStart => exact ⟨rfl, rfl⟩
    case round =>
      obtain ⟨rfl, rfl⟩ := hrel
      go_wp2
      go_ret2
      exact ⟨rfl, rfl⟩

end Go.Proofs.Ytnjenggijmbhcaa
/-
  Contracts of torchonref28: Undoing, asked, above, Above.
-/
namespace Go.Proofs.Ytnjenggijmbhcaa
open Go.RowKit
set_option maxRecDepth 100000 in
set_option maxHeartbeats 400000 in
theorem undoing28 (k a : Int) (s : ByteArray) (w : World) (hs : s.size ≤ 9223372036854775807) :
    Calls Try.prog 21 #[.agg #[.int .i64 k, .int .i64 a, .string s]] w fun e w' => e = .returned (.agg #[.int .i64 k, .int .i64 a, .string (invW s)]) ∧ Below w.heap.size w w' := by
  go_enter Try.func21, Try.ntmps21
  go_wp2_with (go_at_call 44; refine (inverse03 _ _ hs).mono ?_; rintro e w' ⟨rfl, rfl⟩)
  go_returns
  exact ⟨rfl, by go_grown⟩
set_option maxRecDepth 100000 in
set_option maxHeartbeats 400000 in
theorem asked28 (p at_ k a : Int) (s : ByteArray) (A : Option Addr) (n c : Nat) (ws : List Wk) (w : World) (hn : n ≤ 9223372036854775807) (hw : RdW w w.heap.size A ws) (hl : ws.length = n)
    (hs : ∀ x ∈ ws, x.word.size ≤ 9223372036854775807) (hs2 : s.size ≤ 9223372036854775807) :
    Calls Try.prog 38 #[.agg #[.int .i64 p, .slice A n c], .int .i64 at_, .agg #[.int .i64 k, .int .i64 a, .string s]] w fun e w' =>
      e = .returned (.int .i64 (if schk p ws ≠ 0 then schk p ws else if at_ < 0 ∨ (n : Int) ≤ at_ then 7 else if schk p [⟨k, a, s⟩] ≠ 0 then 2 else 0)) ∧ Below w.heap.size w w' := by
  have HW := Lib.hid hw; clear hw
  have HL := Lib.hid hl; clear hl
  have HS := Lib.hid hs; clear hs
  by_cases h0 : schk p ws = 0
  · have H0 := Lib.hid h0
    rw [if_neg (by simpa using h0)]
    clear h0
    by_cases h1 : at_ < 0
    · rw [if_pos (.inl h1)]
      go_enter Try.func38, Try.ntmps38
      go_wp2_with (go_at_call 19; refine (check04 _ _ _ _ _ _ hn (HW.out.up (by go_grown)) HL.out HS.out).mono ?_; rintro e w1 ⟨rfl, hb1⟩; rw [H0.out]; obtain ⟨hc, hf⟩ := bcell hb1)
      go_ret
      exact ⟨rfl, bvia (by go_grown) hb1⟩
    have h1' : 0 ≤ at_ := by omega
    by_cases h2 : (n : Int) ≤ at_
    · rw [if_pos (.inr h2)]
      clear h1
      go_enter Try.func38, Try.ntmps38
      go_wp2_with (go_at_call 19; refine (check04 _ _ _ _ _ _ hn (HW.out.up (by go_grown)) HL.out HS.out).mono ?_; rintro e w1 ⟨rfl, hb1⟩; rw [H0.out]; obtain ⟨hc, hf⟩ := bcell hb1)
      go_ret
      exact ⟨rfl, bvia (by go_grown) hb1⟩
    have h2' : at_ < (n : Int) := by omega
    have g1 : decide (at_ < 0) = false := by simp; omega
    have g2 : decide ((n : Int) ≤ at_) = false := by simp; omega
    rw [if_neg (by omega)]
    clear h1 h2
    have C2 := Lib.hid (fun (w : World) => check04 p (some ⟨w.heap.size, 0, none⟩) 1 1 [⟨k, a, s⟩] _ (by omega) (rdW_one w k a s 26) rfl (by simpa using hs2))
    by_cases h3 : schk p [⟨k, a, s⟩] = 0
    · rw [if_neg (by simpa using h3)]
      have H3 := Lib.hid h3; clear h3
      go_enter Try.func38, Try.ntmps38
      go_wp2_with fail
      refine (check04 _ _ _ _ _ _ hn (HW.out.up (by go_grown)) HL.out HS.out).mono ?_
      rintro e w1 ⟨rfl, hb1⟩
      rw [H0.out]
      obtain ⟨hc, hf⟩ := bcell hb1
      go_wp2_with fail
      refine (C2.out _).mono ?_
      rintro e w2 ⟨rfl, hb2⟩
      rw [H3.out]
      go_wp2
      go_ret
      exact ⟨rfl, bvia (bvia (by go_grown) hb1) (bvia (by go_grown) hb2)⟩
    · rw [if_pos (by simpa using h3)]
      have H3 := Lib.hid h3
      have h3' : (schk p [⟨k, a, s⟩] != 0) = true := by simpa using h3
      have h3'' : (schk p [⟨k, a, s⟩] == 0) = false := by simpa using h3
      clear h3
      go_enter Try.func38, Try.ntmps38
      go_wp2_with fail
      refine (check04 _ _ _ _ _ _ hn (HW.out.up (by go_grown)) HL.out HS.out).mono ?_
      rintro e w1 ⟨rfl, hb1⟩
      rw [H0.out]
      obtain ⟨hc, hf⟩ := bcell hb1
      go_wp2_with fail
      refine (C2.out _).mono ?_
      rintro e w2 ⟨rfl, hb2⟩
      go_wp2
      go_ret
      exact ⟨rfl, bvia (bvia (by go_grown) hb1) (bvia (by go_grown) hb2)⟩
  · rw [if_pos h0]
    have h3' : (schk p ws != 0) = true := by simpa using h0
    have h3'' : (schk p ws == 0) = false := by simpa using h0
    clear h0
    go_enter Try.func38, Try.ntmps38
    go_wp2_with (go_at_call 19; refine (check04 _ _ _ _ _ _ hn (HW.out.up (by go_grown)) HL.out HS.out).mono ?_; rintro e w1 ⟨rfl, hb1⟩)
    go_ret
    exact ⟨rfl, bvia (by go_grown) hb1⟩
end Go.Proofs.Ytnjenggijmbhcaa
