/-
  Contract of undo.Above: what must be undone, or an error.
-/
import Derived.Test.YtnjenggijmbhcaaUna
namespace Go.Proofs.Ytnjenggijmbhcaa
open Go.RowKit
set_option maxRecDepth 100000 in
set_option maxHeartbeats 1000000 in
theorem AboveUn (p at_ k a : Int) (s : ByteArray) (A : Option Addr) (n c : Nat) (ws : List Wk) (w : World) (hn : n ≤ 9223372036854775807) (hnc : n ≤ c) (hcm : c ≤ 9223372036854775807) (hw : RdW w w.heap.size A ws) (hl : ws.length = n)
    (hs : ∀ x ∈ ws, x.word.size ≤ 9223372036854775807) (hs2 : s.size ≤ 9223372036854775807) :
    Calls Try.prog 13 #[.agg #[.int .i64 p, .slice A n c], .int .i64 at_, .agg #[.int .i64 k, .int .i64 a, .string s]] w (RetIE (abvL p ws at_ ⟨k, a, s⟩) (askE p ws at_ ⟨k, a, s⟩) w) := by
  have HW := Lib.hid hw; clear hw
  have HL := Lib.hid hl; clear hl
  have HS := Lib.hid hs; clear hs
  have C := Lib.hid (fun (W : World) (hw : RdW W W.heap.size A ws) => unCheck p at_ k a s A n c w.heap.size ws W hn hw HL.out HS.out hs2)
  by_cases h0 : askE p ws at_ ⟨k, a, s⟩ = 0
  · have HA : Hid (abvL p ws at_ ⟨k, a, s⟩ = (abU ws at_.toNat a n).map (fun (k : Nat) => (k : Int))) := by
      show abvL p ws at_ ⟨k, a, s⟩ = (abU ws at_.toNat a n).map (fun (k : Nat) => (k : Int))
      unfold abvL; rw [if_pos h0, HL.out]
    obtain ⟨z1, z2, z3, z4⟩ := askE_zero h0
    have v1 := schk_zero z1
    have v2 := schk_zero z4
    have b1 := valid_at v2 ⟨k, a, s⟩ (by simp)
    have H0 := Lib.hid h0
    clear h0 z1 z4
    rw [HL.out] at z3
    obtain ⟨m, rfl⟩ := Int.eq_ofNat_of_zero_le z2
    obtain ⟨b, rfl⟩ := Int.eq_ofNat_of_zero_le b1.1
    have b2 : (b : Int) ≤ 22 := b1.2
    rw [Int.toNat_natCast] at HA
    have D := Lib.hid (fun (W : World) (hw : RdW W W.heap.size A ws) => unAbove k s A b n c m w.heap.size ws W hw HL.out (by omega) (by have := v1.len; rw [HL.out] at this; exact this) hnc hcm (by omega) (valid_at v1))
    rw [HA.out, H0.out]
    clear v1 v2 b1 z2 z3
    go_enter Try.func13, Try.ntmps13
    go_wp2_with fail
    refine (C.out _ (HW.out.up (by go_grown)) (by simp; omega) (by go_simp) (by go_simp)).mono ?_
    rintro e w1 ⟨rfl, hb1⟩
    rw [H0.out]
    have hw1 := Lib.hid (HW.out.up (bvia (by go_grown) hb1))
    have d1 : w1.cell? ⟨w.heap.size, 1, none⟩ = some (.slice A n c) := by rw [hb1.cell (by simp; omega)]; go_simp
    have e0 : w1.cell? ⟨w.heap.size + 1, 0, none⟩ = some (.int .i64 k) := by rw [hb1.cell (by simp)]; go_simp
    have e1 : w1.cell? ⟨w.heap.size + 1, 1, none⟩ = some (.int .i64 (b : Int)) := by rw [hb1.cell (by simp)]; go_simp
    have e2 : w1.cell? ⟨w.heap.size + 1, 2, none⟩ = some (.string s) := by rw [hb1.cell (by simp)]; go_simp
    have hz := hb1.size
    simp at hz
    go_wp2_with fail
    refine (D.out _ hw1.out (by omega) d1).mono ?_
    rintro e w2 ⟨A2, n2, c2, rfl, r1, r2, r3, r4, r5⟩
    have R1 := Lib.hid r1; clear r1
    have R2 := Lib.hid r2; clear r2
    go_wp2
    go_ret2
    exact ⟨_, _, _, rfl, R1.out, R2.out, r3, r4, bvia (bvia (by go_grown) hb1) r5⟩
  · have HA : Hid (abvL p ws at_ ⟨k, a, s⟩ = []) := by
      show abvL p ws at_ ⟨k, a, s⟩ = []
      unfold abvL; rw [if_neg h0]
    have h3' : (askE p ws at_ ⟨k, a, s⟩ != 0) = true := by simpa using h0
    have h3'' : (askE p ws at_ ⟨k, a, s⟩ == 0) = false := by simpa using h0
    clear h0
    rw [HA.out]
    generalize askE p ws at_ ⟨k, a, s⟩ = q at *
    go_enter Try.func13, Try.ntmps13
    go_wp2_with fail
    refine (C.out _ (HW.out.up (by go_grown)) (by simp; omega) (by go_simp) (by go_simp)).mono ?_
    rintro e w1 ⟨rfl, hb1⟩
    obtain ⟨hc, hf⟩ := bcell hb1
    go_wp2
    go_ret2
    exact ⟨_, _, _, rfl, Rd1.nil _ _ _ _, rfl, Nat.zero_le _, by omega, bvia (by go_grown) hb1⟩
end Go.Proofs.Ytnjenggijmbhcaa
