/-
  Contracts of the inner functions of the undo statements: far, stitch, Example.
-/
import Derived.Test.YtnjenggijmbhcaaOwn
namespace Go.Proofs.Ytnjenggijmbhcaa
open Go.RowKit
set_option maxRecDepth 100000 in
theorem stitch31 (at_ : Int) (s : ByteArray) (w : World) :
    Calls Try.prog 31 #[.int .i64 at_, .string s] w fun e w' => e = .returned (.agg #[.int .i64 1, .int .i64 at_, .string s]) ∧ Below w.heap.size w w' := by
  go_enter Try.func31, Try.ntmps31
  go_wp2
  refine post_cell (cs := [.int .i64 1, .int .i64 at_, .string s]) (Has.new rfl) Try.results31 rfl rfl Try.underlying26 (by kernel_rfl) ?_
  exact ⟨rfl, by go_grown⟩
theorem has_rdW {w : World} {g : Nat} {t : TypeId} {ws : List Wk} (h : Has w g t (wksCells ws)) : RdW w w.heap.size (some ⟨g, 0, none⟩) ws := fun k x hx => by
  obtain ⟨e1, e2, e3⟩ := wksCells_get hx
  exact ⟨g, 0, rfl, h.lt, by rw [Nat.zero_add]; exact (h.cell _).trans e1, by rw [Nat.zero_add]; exact (h.cell _).trans e2, by rw [Nat.zero_add]; exact (h.cell _).trans e3⟩
def exWs : List Wk := [⟨1, 0, ⟨#[67, 84, 67]⟩⟩, ⟨1, 2, ⟨#[67, 84]⟩⟩, ⟨1, 1, ⟨#[67, 84]⟩⟩, ⟨1, 2, ⟨#[67]⟩⟩]
set_option maxRecDepth 100000 in
theorem example30 (w : World) :
    Calls Try.prog 30 #[] w fun e w' => ∃ g, e = .returned (.agg #[.int .i64 4, .slice (some ⟨g, 0, none⟩) 4 4]) ∧ RdW w' w'.heap.size (some ⟨g, 0, none⟩) exWs ∧ Below w.heap.size w w' := by
  go_enter Try.func30, Try.ntmps30
  go_wp2_with fail
  refine (stitch31 _ _ _).mono ?_
  rintro e w1 ⟨rfl, hb1⟩
  go_wp2_with fail
  refine (stitch31 _ _ _).mono ?_
  rintro e w2 ⟨rfl, hb2⟩
  go_wp2_with fail
  refine (stitch31 _ _ _).mono ?_
  rintro e w3 ⟨rfl, hb3⟩
  go_wp2_with fail
  refine (stitch31 _ _ _).mono ?_
  rintro e w4 ⟨rfl, hb4⟩
  have hb : Below (w.heap.size + 1) (w.alloc (.cells #[.int .i64 0, .slice none 0 0] 24)) w4 := by
    simp only [World.size_alloc] at hb1
    have z1 := hb1.size
    have z2 := hb2.size
    have z3 := hb3.size
    simp only [World.size_alloc] at z1
    exact ((hb1.trans (hb2.mono z1)).trans (hb3.mono (by omega))).trans (hb4.mono (by omega))
  have h1 : Has (w.alloc (.cells #[.int .i64 0, .slice none 0 0] 24)) w.heap.size 24 [.int .i64 0, .slice none 0 0] := Has.new rfl
  have h4 := h1.below hb (by omega)
  have m0 : w4.cell? ⟨w.heap.size, 0, none⟩ = some (.int .i64 0) := h4.cell 0
  have m1 : w4.cell? ⟨w.heap.size, 1, none⟩ = some (.slice none 0 0) := h4.cell 1
  have f0 := h4.free 0
  have f1 := h4.free 1
  have hz : w.heap.size < w4.heap.size := h4.lt
  clear hb1 hb2 hb3 hb4
  go_wp2
  have K : Has (((w4.setCell ⟨w.heap.size, 0, none⟩ (.int .i64 4)).setCell ⟨w.heap.size, 1, none⟩ (.slice (some ⟨w4.heap.size, 0, none⟩) 4 4)).alloc (.cells (wksCells exWs).toArray 26)) w4.heap.size 26 (wksCells exWs) := by
    have := Has.new (w := ((w4.setCell ⟨w.heap.size, 0, none⟩ (.int .i64 4)).setCell ⟨w.heap.size, 1, none⟩ (.slice (some ⟨w4.heap.size, 0, none⟩) 4 4))) (arr := (wksCells exWs).toArray) (t := 26) (cs := wksCells exWs) rfl
    simpa using this
  refine post_cell ((((h4.set 0 _).set 1 _)).alloc _) Try.results30 rfl rfl Try.underlying24 (by kernel_rfl) ?_
  exact ⟨w4.heap.size, rfl, has_rdW K, ((((show Below w.heap.size w (w.alloc _) by go_grown).trans (hb.mono (by omega))).setCell (by simp) _).setCell (by simp) _).alloc (by simp; omega) _⟩
set_option maxRecDepth 100000 in
theorem far11 (p m : Int) (A : Option Addr) (n c : Nat) (w : World) (hn : n ≤ 9223372036854775807) :
    Calls Try.prog 11 #[.agg #[.int .i64 p, .slice A n c], .int .i64 m] w fun e w' => e = .returned (.bool (decide (m < n ∧ n ≤ 400) || decide (450 < n))) ∧ Below w.heap.size w w' := by
  have k1 : (decide (m < (n : Int)) : Bool) = decide (m < n) := rfl
  by_cases h1 : m < (n : Int)
  · by_cases h2 : (n : Int) ≤ 400
    · have h3 : ¬ (450 : Int) < n := by omega
      have e : (decide (m < n ∧ n ≤ 400) || decide (450 < n)) = true := by simp; omega
      rw [e]; clear e
      go_enter Try.func11, Try.ntmps11
      go_wp2
      all_goals (go_ret; exact ⟨rfl, by go_grown⟩)
    · by_cases h3 : (450 : Int) < n
      · have e : (decide (m < n ∧ n ≤ 400) || decide (450 < n)) = true := by simp; omega
        rw [e]; clear e
        go_enter Try.func11, Try.ntmps11
        go_wp2
        all_goals (go_ret; exact ⟨rfl, by go_grown⟩)
      · have e : (decide (m < n ∧ n ≤ 400) || decide (450 < n)) = false := by simp; omega
        rw [e]; clear e
        go_enter Try.func11, Try.ntmps11
        go_wp2
        all_goals (go_ret; exact ⟨rfl, by go_grown⟩)
  · have e : (decide (m < n ∧ n ≤ 400) || decide (450 < n)) = decide (450 < n) := by simp; omega
    rw [e]; clear e
    by_cases h3 : (450 : Int) < n
    · have e : decide (450 < n) = true := by simp; omega
      rw [e]; clear e
      go_enter Try.func11, Try.ntmps11
      go_wp2
      all_goals (go_ret; exact ⟨rfl, by go_grown⟩)
    · have e : decide (450 < n) = false := by simp; omega
      rw [e]; clear e
      go_enter Try.func11, Try.ntmps11
      go_wp2
      all_goals (go_ret; exact ⟨rfl, by go_grown⟩)
end Go.Proofs.Ytnjenggijmbhcaa
