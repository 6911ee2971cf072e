/-
  Contracts of torchonref28: Undoing, asked, above, Above.
-/
import Derived.Test.YtnjenggijmbhcaaR03b
import Derived.Test.YtnjenggijmbhcaaR04
import Derived.Test.YtnjenggijmbhcaaR04b
namespace Go.Proofs.Ytnjenggijmbhcaa
open Go.RowKit
set_option maxRecDepth 100000 in
set_option maxHeartbeats 400000 in
theorem undoing28 (k a : Int) (s : ByteArray) (w : World) (hs : s.size ≤ 9223372036854775807) :
    Calls Try.prog 21 #[.agg #[.int .i64 k, .int .i64 a, .string s]] w fun e w' => e = .returned (.agg #[.int .i64 k, .int .i64 a, .string (invW s)]) ∧ Below w.heap.size w w' := by
  go_enter Try.func21, Try.ntmps21
  go_wp2_with (go_at_call 44; refine (inverse03 _ _ hs).mono ?_; rintro e w' ⟨rfl, rfl⟩)
  go_returns
  exact ⟨rfl, by go_grown⟩
set_option maxRecDepth 100000 in
set_option maxHeartbeats 400000 in
theorem asked28 (p at_ k a : Int) (s : ByteArray) (A : Option Addr) (n c : Nat) (ws : List Wk) (w : World) (hn : n ≤ 9223372036854775807) (hw : RdW w w.heap.size A ws) (hl : ws.length = n)
    (hs : ∀ x ∈ ws, x.word.size ≤ 9223372036854775807) (hs2 : s.size ≤ 9223372036854775807) :
    Calls Try.prog 38 #[.agg #[.int .i64 p, .slice A n c], .int .i64 at_, .agg #[.int .i64 k, .int .i64 a, .string s]] w fun e w' =>
      e = .returned (.int .i64 (if schk p ws ≠ 0 then schk p ws else if at_ < 0 ∨ (n : Int) ≤ at_ then 7 else if schk p [⟨k, a, s⟩] ≠ 0 then 2 else 0)) ∧ Below w.heap.size w w' := by
  have HW := Lib.hid hw; clear hw
  have HL := Lib.hid hl; clear hl
  have HS := Lib.hid hs; clear hs
  by_cases h0 : schk p ws = 0
  · have H0 := Lib.hid h0
    rw [if_neg (by simpa using h0)]
    clear h0
    by_cases h1 : at_ < 0
    · rw [if_pos (.inl h1)]
      go_enter Try.func38, Try.ntmps38
      go_wp2_with (go_at_call 19; refine (check04 _ _ _ _ _ _ hn (HW.out.up (by go_grown)) HL.out HS.out).mono ?_; rintro e w1 ⟨rfl, hb1⟩; rw [H0.out]; obtain ⟨hc, hf⟩ := bcell hb1)
      go_ret
      exact ⟨rfl, bvia (by go_grown) hb1⟩
    have h1' : 0 ≤ at_ := by omega
    by_cases h2 : (n : Int) ≤ at_
    · rw [if_pos (.inr h2)]
      clear h1
      go_enter Try.func38, Try.ntmps38
      go_wp2_with (go_at_call 19; refine (check04 _ _ _ _ _ _ hn (HW.out.up (by go_grown)) HL.out HS.out).mono ?_; rintro e w1 ⟨rfl, hb1⟩; rw [H0.out]; obtain ⟨hc, hf⟩ := bcell hb1)
      go_ret
      exact ⟨rfl, bvia (by go_grown) hb1⟩
    have h2' : at_ < (n : Int) := by omega
    have g1 : decide (at_ < 0) = false := by simp; omega
    have g2 : decide ((n : Int) ≤ at_) = false := by simp; omega
    rw [if_neg (by omega)]
    clear h1 h2
    have C2 := Lib.hid (fun (w : World) => check04 p (some ⟨w.heap.size, 0, none⟩) 1 1 [⟨k, a, s⟩] _ (by omega) (rdW_one w k a s 26) rfl (by simpa using hs2))
    by_cases h3 : schk p [⟨k, a, s⟩] = 0
    · rw [if_neg (by simpa using h3)]
      have H3 := Lib.hid h3; clear h3
      go_enter Try.func38, Try.ntmps38
      go_wp2_with fail
      refine (check04 _ _ _ _ _ _ hn (HW.out.up (by go_grown)) HL.out HS.out).mono ?_
      rintro e w1 ⟨rfl, hb1⟩
      rw [H0.out]
      obtain ⟨hc, hf⟩ := bcell hb1
      go_wp2_with fail
      refine (C2.out _).mono ?_
      rintro e w2 ⟨rfl, hb2⟩
      rw [H3.out]
      go_wp2
      go_ret
      exact ⟨rfl, bvia (bvia (by go_grown) hb1) (bvia (by go_grown) hb2)⟩
    · rw [if_pos (by simpa using h3)]
      have H3 := Lib.hid h3
      have h3' : (schk p [⟨k, a, s⟩] != 0) = true := by simpa using h3
      have h3'' : (schk p [⟨k, a, s⟩] == 0) = false := by simpa using h3
      clear h3
      go_enter Try.func38, Try.ntmps38
      go_wp2_with fail
      refine (check04 _ _ _ _ _ _ hn (HW.out.up (by go_grown)) HL.out HS.out).mono ?_
      rintro e w1 ⟨rfl, hb1⟩
      rw [H0.out]
      obtain ⟨hc, hf⟩ := bcell hb1
      go_wp2_with fail
      refine (C2.out _).mono ?_
      rintro e w2 ⟨rfl, hb2⟩
      go_wp2
      go_ret
      exact ⟨rfl, bvia (bvia (by go_grown) hb1) (bvia (by go_grown) hb2)⟩
  · rw [if_pos h0]
    have h3' : (schk p ws != 0) = true := by simpa using h0
    have h3'' : (schk p ws == 0) = false := by simpa using h0
    clear h0
    go_enter Try.func38, Try.ntmps38
    go_wp2_with (go_at_call 19; refine (check04 _ _ _ _ _ _ hn (HW.out.up (by go_grown)) HL.out HS.out).mono ?_; rintro e w1 ⟨rfl, hb1⟩)
    go_ret
    exact ⟨rfl, bvia (by go_grown) hb1⟩
end Go.Proofs.Ytnjenggijmbhcaa
