/-
  The law's own check that the examples come out: awake returns true, given undo.Net's contract.
-/
import Derived.Test.YtnjenggijmbhcaaVK1
import Derived.Test.YtnjenggijmbhcaaVK2
import Derived.Test.YtnjenggijmbhcaaVK5
import Derived.Test.YtnjenggijmbhcaaVK9
import Derived.Test.YtnjenggijmbhcaaVK10
namespace Go.Proofs.Ytnjenggijmbhcaa
open Go.RowKit
attribute [local go_sem 10000] eql_wk
theorem aw1 : abvL 4 exWs 0 ⟨1, 0, ⟨#[67, 84]⟩⟩ = [0, 2, 3] := by decide +kernel
theorem aw2 : askE 4 exWs 0 ⟨1, 0, ⟨#[67, 84]⟩⟩ = 0 := by decide +kernel
theorem aw3 : abvL 4 exWs 0 ⟨1, 2, ⟨#[67, 84]⟩⟩ = [0, 1, 2, 3] := by decide +kernel
theorem aw4 : askE 4 exWs 0 ⟨1, 2, ⟨#[67, 84]⟩⟩ = 0 := by decide +kernel
def awWs : List Wk := [⟨1, 0, ⟨#[67, 84]⟩⟩, ⟨1, 2, ⟨#[67]⟩⟩, ⟨1, 0, ⟨#[116, 99]⟩⟩]
theorem aw5 : schk 4 awWs = 0 := by decide +kernel
theorem aw6 : netL awWs = [⟨1, 2, ⟨#[67]⟩⟩] := by decide +kernel
theorem exSmall : ∀ x ∈ exWs, x.word.size ≤ 9223372036854775807 := by decide
theorem awSmall : ∀ x ∈ awWs, x.word.size ≤ 9223372036854775807 := by decide
/-- undo.Net's contract, as a word -/
def NetSays : Prop := ∀ (p : Int) (A : Option Addr) (n c : Nat) (ws : List Wk) (w : World), n ≤ 9223372036854775807 → n ≤ c → RdW w w.heap.size A ws → ws.length = n →
    (∀ x ∈ ws, x.word.size ≤ 9223372036854775807) → schk p ws = 0 → Calls Try.prog 15 #[.agg #[.int .i64 p, .slice A n c]] w (RetSE p (netL ws) 0 w)
theorem rd_ints {w : World} {g : Nat} {l : List Int} {t : TypeId} (h : Has w g t (l.map vInt)) : RdI w w.heap.size (some ⟨g, 0, none⟩) l := fun k x hx =>
  ⟨g, 0, rfl, h.lt, by rw [Nat.zero_add]; exact (h.cell k).trans (by rw [List.getElem?_map, hx]; rfl)⟩
set_option maxRecDepth 100000 in
set_option maxHeartbeats 2000000 in
theorem awakeOf (NU : NetSays) (w : World) : Calls Try.prog 12 #[] w fun e w' => e = .returned (.bool true) ∧ Below w.heap.size w w' := by
  have NU := Lib.hid NU
  go_enter Try.func12, Try.ntmps12
  go_wp2_with fail
  refine (example30 _).mono ?_
  rintro e w1 ⟨g, rfl, r1, hb1⟩
  go_wp2_with fail
  refine (stitch31 _ _ _).mono ?_
  rintro e w2 ⟨rfl, hb2⟩
  go_wp2_with fail
  refine (AboveUn _ _ _ _ _ _ _ _ _ _ (by decide) (by decide) (by decide) (r1.up hb2) rfl exSmall (by decide)).mono ?_
  rintro e w3 ⟨A3, n3, c3, rfl, r3, l3, m3, o3, hb3⟩
  rw [aw1] at r3 l3
  rw [aw2]
  obtain rfl : 3 = n3 := l3
  have b3 : Below w.heap.size w w3 := bvia (bvia hb1 hb2) hb3
  clear hb1 hb2 hb3 r1
  have R3 := Lib.hid r3; clear r3
  go_wp2_with fail
  refine (example30 _).mono ?_
  rintro e w4 ⟨g, rfl, r1, hb1⟩
  go_wp2_with fail
  refine (stitch31 _ _ _).mono ?_
  rintro e w5 ⟨rfl, hb2⟩
  go_wp2_with fail
  refine (AboveUn _ _ _ _ _ _ _ _ _ _ (by decide) (by decide) (by decide) (r1.up hb2) rfl exSmall (by decide)).mono ?_
  rintro e w6 ⟨A6, n6, c6, rfl, r6, l6, m6, o6, hb3⟩
  rw [aw3] at r6 l6
  rw [aw4]
  obtain rfl : 4 = n6 := l6
  have R3' := Lib.hid (R3.out.up (bvia (bvia hb1 hb2) hb3)); clear R3
  have b6 : Below w.heap.size w w6 := bvia b3 (bvia (bvia hb1 hb2) hb3)
  clear hb1 hb2 hb3 r1 b3
  have R6 := Lib.hid r6; clear r6
  go_wp2_with fail
  refine (stitch31 _ _ _).mono ?_
  rintro e w7 ⟨rfl, hb1⟩
  go_wp2_with fail
  refine (stitch31 _ _ _).mono ?_
  rintro e w8 ⟨rfl, hb2⟩
  go_wp2_with fail
  refine (stitch31 _ _ _).mono ?_
  rintro e w9 ⟨rfl, hb3⟩
  go_wp2_with fail
  have K : Has (w9.alloc (.cells (wksCells awWs).toArray 26)) w9.heap.size 26 (wksCells awWs) := Has.new rfl
  refine (NU.out _ _ _ _ awWs _ (by decide) (by decide) (has_rdW K) rfl awSmall aw5).mono ?_
  rintro e w10 ⟨A10, n10, c10, rfl, r10, l10, m10, o10, hb4⟩
  rw [aw6] at r10 l10
  obtain rfl : 1 = n10 := l10
  have b9 : Below w6.heap.size w6 w10 := bvia (bvia (bvia (bvia hb1 hb2) hb3) (show Below w9.heap.size w9 (w9.alloc _) by go_grown)) hb4
  have b10 : Below w.heap.size w w10 := bvia b6 b9
  have R3 := Lib.hid (R3'.out.up b9)
  have R6' := Lib.hid (R6.out.up b9)
  obtain ⟨ba, o, rfl, hba, c1, c2, c3'⟩ := r10 0 _ rfl
  clear hb1 hb2 hb3 hb4 b6 b9 r10 R6 R3' K
  simp only [Nat.zero_mul, Nat.add_zero] at c1 c2 c3'
  have s0 : (w10.alloc (.cells #[.int .i64 4, .slice (some ⟨ba, o, none⟩) 1 c10] 24)).cell? ⟨w10.heap.size, 1, none⟩ = some (.slice (some ⟨ba, o, none⟩) 1 c10) := by go_simp
  have s1 : (w10.alloc (.cells #[.int .i64 4, .slice (some ⟨ba, o, none⟩) 1 c10] 24)).cell? ⟨ba, o, none⟩ = some (.int .i64 1) := by rw [← c1]; exact (Below.alloc (Below.refl _ _) (Nat.le_refl _) _).cell hba
  have s2 : (w10.alloc (.cells #[.int .i64 4, .slice (some ⟨ba, o, none⟩) 1 c10] 24)).cell? ⟨ba, o + 1, none⟩ = some (.int .i64 2) := by rw [← c2]; exact (Below.alloc (Below.refl _ _) (Nat.le_refl _) _).cell hba
  have s3 : (w10.alloc (.cells #[.int .i64 4, .slice (some ⟨ba, o, none⟩) 1 c10] 24)).cell? ⟨ba, o + 2, none⟩ = some (.string ⟨#[67]⟩) := by rw [← c3']; exact (Below.alloc (Below.refl _ _) (Nat.le_refl _) _).cell hba
  have R3 := Lib.hid (R3.out.up (show Below w10.heap.size w10 (w10.alloc (.cells #[.int .i64 4, .slice (some ⟨ba, o, none⟩) 1 c10] 24)) by go_grown))
  have R6 := Lib.hid (R6'.out.up (show Below w10.heap.size w10 (w10.alloc (.cells #[.int .i64 4, .slice (some ⟨ba, o, none⟩) 1 c10] 24)) by go_grown))
  have b11 : Below w.heap.size w (w10.alloc (.cells #[.int .i64 4, .slice (some ⟨ba, o, none⟩) 1 c10] 24)) := bvia b10 (by go_grown)
  have hz1 : w10.heap.size < (w10.alloc (.cells #[.int .i64 4, .slice (some ⟨ba, o, none⟩) 1 c10] 24)).heap.size := by simp
  have hz2 : ba < (w10.alloc (.cells #[.int .i64 4, .slice (some ⟨ba, o, none⟩) 1 c10] 24)).heap.size := by simp; omega
  clear R6' b10 c1 c2 c3'
  go_wp2
  generalize hsh : w10.heap.size = sh at *
  generalize (w10.alloc (.cells #[.int .i64 4, .slice (some ⟨ba, o, none⟩) 1 c10] 24)) = wo at *
  clear hsh
  have HK := Lib.hid (show ∀ w', Below wo.heap.size wo w' → w'.cell? ⟨sh, 1, none⟩ = some (.slice (some ⟨ba, o, none⟩) 1 c10) ∧ w'.cell? ⟨ba, o, none⟩ = some (.int .i64 1) ∧ w'.cell? ⟨ba, o + 1, none⟩ = some (.int .i64 2) ∧ w'.cell? ⟨ba, o + 2, none⟩ = some (.string ⟨#[67]⟩) from
    fun w' hb => ⟨(hb.cell hz1).trans s0, (hb.cell hz2).trans s1, (hb.cell hz2).trans s2, (hb.cell hz2).trans s3⟩)
  go_region_held3 (fun w' => w'.cell? ⟨sh, 1, none⟩ = some (.slice (some ⟨ba, o, none⟩) 1 c10) ∧ w'.cell? ⟨ba, o, none⟩ = some (.int .i64 1) ∧ w'.cell? ⟨ba, o + 1, none⟩ = some (.int .i64 2) ∧ w'.cell? ⟨ba, o + 2, none⟩ = some (.string ⟨#[67]⟩)) (go_keep)
    (first | (go_at_call_of 17 (Value.slice A3 3 c3); refine (sameInts04 A3 (some ⟨wo.heap.size, 0, none⟩) 3 3 c3 3 [0, 2, 3] [0, 2, 3] _ (by omega) (by omega) (R3.out.up (by go_grown)) (rd_ints (Has.drew (Has.new rfl))) rfl rfl).mono ?_; rintro e w11 ⟨rfl, hb11⟩; obtain ⟨t0, t1, t2, t3⟩ := HK.out _ (bvia (by go_grown) hb11)) | (go_at_call_of 17 (Value.slice A6 4 c6); refine (sameInts04 A6 (some ⟨w11.heap.size, 0, none⟩) 4 4 c6 4 [0, 1, 2, 3] [0, 1, 2, 3] _ (by omega) (by omega) (R6.out.up (bvia (bvia (by go_grown) hb11) (by go_grown))) (rd_ints (Has.new rfl)) rfl rfl).mono ?_; rintro e w12 ⟨rfl, hb12⟩; obtain ⟨u0, u1, u2, u3⟩ := HK.out _ (bvia (bvia (by go_grown) hb11) (bvia (by go_grown) hb12))) | (go_at_call 31; refine (stitch31 _ _ _).mono ?_; rintro e w13 ⟨rfl, hb13⟩; obtain ⟨v0, v1, v2, v3⟩ := HK.out _ (bvia (bvia (bvia (by go_grown) hb11) (bvia (by go_grown) hb12)) (bvia (by go_grown) hb13))))
  go_wp2
  go_ret
  exact ⟨rfl, bvia b11 (bvia (bvia (bvia (by go_grown) hb11) (bvia (by go_grown) hb12)) (bvia (by go_grown) (hb13.trans (by go_grown))))⟩
end Go.Proofs.Ytnjenggijmbhcaa
