/-
  Contracts of package undo: check, above, Above.
-/
import Derived.Test.YtnjenggijmbhcaaVK3
import Derived.Test.YtnjenggijmbhcaaVK5
namespace Go.Proofs.Ytnjenggijmbhcaa
open Go.RowKit
set_option maxRecDepth 100000 in
set_option maxHeartbeats 1000000 in
theorem unCheck (p at_ k a : Int) (s : ByteArray) (A : Option Addr) (n c sb : Nat) (ws : List Wk) (w : World) (hn : n ≤ 9223372036854775807) (hw : RdW w w.heap.size A ws) (hl : ws.length = n)
    (hs : ∀ x ∈ ws, x.word.size ≤ 9223372036854775807) (hs2 : s.size ≤ 9223372036854775807) (hsb : sb < w.heap.size) (hc0 : w.cell? ⟨sb, 0, none⟩ = some (.int .i64 p)) (hc1 : w.cell? ⟨sb, 1, none⟩ = some (.slice A n c)) :
    Calls Try.prog 36 #[.pointer (some ⟨sb, 0, none⟩), .int .i64 at_, .agg #[.int .i64 k, .int .i64 a, .string s]] w fun e w' => e = .returned (.int .i64 (askE p ws at_ ⟨k, a, s⟩)) ∧ Below w.heap.size w w' := by
  have HW := Lib.hid hw; clear hw
  have HL := Lib.hid hl; clear hl
  have HS := Lib.hid hs; clear hs
  by_cases h0 : schk p ws = 0
  · have H0 := Lib.hid h0
    unfold askE
    rw [if_neg (by simpa using h0)]
    clear h0
    by_cases h1 : at_ < 0
    · rw [if_pos (.inl h1)]
      go_enter Try.func36, Try.ntmps36
      go_wp2_with fail
      refine (shCheck _ _ _ _ _ _ hn (HW.out.up (by go_grown)) HL.out HS.out).mono ?_
      rintro e w1 ⟨rfl, hb1⟩
      rw [H0.out]
      obtain ⟨hc, hf⟩ := bcell hb1
      go_wp2
      go_ret
      exact ⟨rfl, bvia (by go_grown) hb1⟩
    have h1' : 0 ≤ at_ := by omega
    by_cases h2 : (ws.length : Int) ≤ at_
    · rw [if_pos (.inr h2)]
      rw [HL.out] at h2
      clear h1
      have k1 := Lib.hid hc1
      go_enter Try.func36, Try.ntmps36
      go_wp2_with fail
      refine (shCheck _ _ _ _ _ _ hn (HW.out.up (by go_grown)) HL.out HS.out).mono ?_
      rintro e w1 ⟨rfl, hb1⟩
      rw [H0.out]
      have hc1' : w1.cell? ⟨sb, 1, none⟩ = some (.slice A n c) := by rw [(bvia (by go_grown) hb1 : Below w.heap.size w w1).cell hsb]; exact k1.out
      go_wp2
      go_ret
      exact ⟨rfl, bvia (by go_grown) hb1⟩
    rw [if_neg (by omega)]
    rw [HL.out] at h2
    have h2' : at_ < (n : Int) := by omega
    have g1 : decide (at_ < 0) = false := by simp; omega
    have g2 : decide ((n : Int) ≤ at_) = false := by simp; omega
    clear h1 h2
    have h3e : ∃ q, schk p [⟨k, a, s⟩] = q := ⟨_, rfl⟩
    obtain ⟨q, hq⟩ := h3e
    rw [hq]
    have HQ := Lib.hid hq; clear hq
    have k0 := Lib.hid hc0
    have k1 := Lib.hid hc1
    by_cases h3 : q = 0
    · subst h3
      rw [if_neg (by simp)]
      go_enter Try.func36, Try.ntmps36
      go_wp2_with fail
      refine (shCheck _ _ _ _ _ _ hn (HW.out.up (by go_grown)) HL.out HS.out).mono ?_
      rintro e w1 ⟨rfl, hb1⟩
      rw [H0.out]
      have hb0 : Below w.heap.size w w1 := bvia (by go_grown) hb1
      have hc0' : w1.cell? ⟨sb, 0, none⟩ = some (.int .i64 p) := by rw [hb0.cell hsb]; exact k0.out
      have hc1' : w1.cell? ⟨sb, 1, none⟩ = some (.slice A n c) := by rw [hb0.cell hsb]; exact k1.out
      have e0 : w1.cell? ⟨w.heap.size, 0, none⟩ = some (.int .i64 k) := by rw [hb1.cell (by simp)]; go_simp
      have e1 : w1.cell? ⟨w.heap.size, 1, none⟩ = some (.int .i64 a) := by rw [hb1.cell (by simp)]; go_simp
      have e2 : w1.cell? ⟨w.heap.size, 2, none⟩ = some (.string s) := by rw [hb1.cell (by simp)]; go_simp
      have z1 : sb < w1.heap.size + 1 := by have := hb0.size; omega
      have z2 : w.heap.size < w1.heap.size + 1 := by have := hb0.size; omega
      go_wp2
      go_region_held3 (fun w' => w'.cell? ⟨sb, 0, none⟩ = some (.int .i64 p) ∧ w'.cell? ⟨w.heap.size, 0, none⟩ = some (.int .i64 k) ∧ w'.cell? ⟨w.heap.size, 1, none⟩ = some (.int .i64 a) ∧ w'.cell? ⟨w.heap.size, 2, none⟩ = some (.string s)) (go_keep)
        (first | (go_at_call 40; refine (shCheck p (some ⟨w1.heap.size, 0, none⟩) 1 1 [⟨k, a, s⟩] _ (by omega) (rdW_cells (by simp) (by go_simp) (by go_simp) (by go_simp)) rfl (by simpa using hs2)).mono ?_; rintro e w2 ⟨rfl, hb2⟩; rw [HQ.out]; obtain ⟨hc2, hf2⟩ := bcell hb2))
      go_wp2
      go_ret
      exact ⟨rfl, bvia hb0 (bvia (by go_grown) hb2)⟩
    · rw [if_pos (by simpa using h3)]
      have h3' : (q != 0) = true := by simpa using h3
      have h3'' : (q == 0) = false := by simpa using h3
      clear h3
      go_enter Try.func36, Try.ntmps36
      go_wp2_with fail
      refine (shCheck _ _ _ _ _ _ hn (HW.out.up (by go_grown)) HL.out HS.out).mono ?_
      rintro e w1 ⟨rfl, hb1⟩
      rw [H0.out]
      have hb0 : Below w.heap.size w w1 := bvia (by go_grown) hb1
      have hc0' : w1.cell? ⟨sb, 0, none⟩ = some (.int .i64 p) := by rw [hb0.cell hsb]; exact k0.out
      have hc1' : w1.cell? ⟨sb, 1, none⟩ = some (.slice A n c) := by rw [hb0.cell hsb]; exact k1.out
      have e0 : w1.cell? ⟨w.heap.size, 0, none⟩ = some (.int .i64 k) := by rw [hb1.cell (by simp)]; go_simp
      have e1 : w1.cell? ⟨w.heap.size, 1, none⟩ = some (.int .i64 a) := by rw [hb1.cell (by simp)]; go_simp
      have e2 : w1.cell? ⟨w.heap.size, 2, none⟩ = some (.string s) := by rw [hb1.cell (by simp)]; go_simp
      have z1 : sb < w1.heap.size + 1 := by have := hb0.size; omega
      have z2 : w.heap.size < w1.heap.size + 1 := by have := hb0.size; omega
      go_wp2
      go_region_held3 (fun w' => w'.cell? ⟨sb, 0, none⟩ = some (.int .i64 p) ∧ w'.cell? ⟨w.heap.size, 0, none⟩ = some (.int .i64 k) ∧ w'.cell? ⟨w.heap.size, 1, none⟩ = some (.int .i64 a) ∧ w'.cell? ⟨w.heap.size, 2, none⟩ = some (.string s)) (go_keep)
        (first | (go_at_call 40; refine (shCheck p (some ⟨w1.heap.size, 0, none⟩) 1 1 [⟨k, a, s⟩] _ (by omega) (rdW_cells (by simp) (by go_simp) (by go_simp) (by go_simp)) rfl (by simpa using hs2)).mono ?_; rintro e w2 ⟨rfl, hb2⟩; rw [HQ.out]; obtain ⟨hc2, hf2⟩ := bcell hb2))
      go_wp2
      go_ret
      exact ⟨rfl, bvia hb0 (bvia (by go_grown) hb2)⟩
  · have hE : askE p ws at_ ⟨k, a, s⟩ = schk p ws := by unfold askE; rw [if_pos h0]
    rw [hE]
    have h3' : (schk p ws != 0) = true := by simpa using h0
    have h3'' : (schk p ws == 0) = false := by simpa using h0
    clear h0 hE
    go_enter Try.func36, Try.ntmps36
    go_wp2_with fail
    refine (shCheck _ _ _ _ _ _ hn (HW.out.up (by go_grown)) HL.out HS.out).mono ?_
    rintro e w1 ⟨rfl, hb1⟩
    go_wp2
    go_ret
    exact ⟨rfl, bvia (by go_grown) hb1⟩
end Go.Proofs.Ytnjenggijmbhcaa
