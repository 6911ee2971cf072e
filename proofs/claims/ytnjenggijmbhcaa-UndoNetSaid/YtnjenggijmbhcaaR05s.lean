/-
  Contract of torchonref05.Same for two valid sheets that are the same lace.
-/
import Derived.Test.YtnjenggijmbhcaaR05m
namespace Go.Proofs.Ytnjenggijmbhcaa
open Go.RowKit
theorem SOk.small {p : Int} {us : List Wk} (h : SOk p us) : ∀ x ∈ us, x.word.size ≤ 9223372036854775807 := fun x hx => Nat.le_trans (h.short x hx) (by omega)
theorem SOk.range {p : Int} {us : List Wk} (h : SOk p us) : ∀ x ∈ us, 0 ≤ x.at_ ∧ x.at_ ≤ 22 := fun x hx => by
  obtain ⟨_, h1, h2, _⟩ := bad_at (h.good x hx)
  have := h.le
  omega
set_option maxRecDepth 100000 in
theorem same05 (p : Int) (A B : Option Addr) (n m c d : Nat) (us vs : List Wk) (w : World) (hu : RdW w w.heap.size A us) (hv : RdW w w.heap.size B vs) (hl : us.length = n) (hl' : vs.length = m)
    (h1 : SOk p us) (h2 : SOk p vs) (ha : Alike us vs) :
    Calls Try.prog 22 #[.agg #[.int .i64 p, .slice A n c], .agg #[.int .i64 p, .slice B m d]] w fun e w' => e = .returned (.tuple #[.bool true, .int .i64 0]) ∧ Below w.heap.size w w' := by
  have hnm : n = m := by rw [← hl, ← hl']; exact alike_len ha
  subst hnm
  have hn : n ≤ 400 := by rw [← hl]; exact h1.len
  have HU := Lib.hid hu; clear hu
  have HV := Lib.hid hv; clear hv
  have C1 := Lib.hid (fun (W : World) (hb : Below w.heap.size w W) => both05 p p A B n n c d us vs W (by omega) (by omega) (HU.out.up hb) (HV.out.up hb) hl hl' h1.small h2.small h1.zero h2.zero)
  have C2 := Lib.hid (fun (W : World) (hb : Below w.heap.size w W) => match05 p A B n c d us vs W (HU.out.up hb) (HV.out.up hb) hl hl' hn h1.range (mat_alike ha))
  have K0 : Has ((w.alloc (.cells #[.int .i64 p, .slice A n c] 24)).alloc (.cells #[.int .i64 p, .slice B n d] 24)) w.heap.size 24 [.int .i64 p, .slice A n c] := (Has.new rfl).alloc _
  have K1 : Has ((w.alloc (.cells #[.int .i64 p, .slice A n c] 24)).alloc (.cells #[.int .i64 p, .slice B n d] 24)) (w.heap.size + 1) 24 [.int .i64 p, .slice B n d] := by
    have := Has.new (w := w.alloc (.cells #[.int .i64 p, .slice A n c] 24)) (arr := #[.int .i64 p, .slice B n d]) (t := 24) (cs := [.int .i64 p, .slice B n d]) rfl
    simpa using this
  clear h1 h2 ha hl hl'
  go_enter Try.func22, Try.ntmps22
  go_wp2_with fail
  refine (C1.out _ (by go_grown)).mono ?_
  rintro e w1 ⟨rfl, hb1⟩
  have g0 := K0.below hb1 K0.lt
  have g1 := K1.below hb1 K1.lt
  have a0 : w1.cell? ⟨w.heap.size, 0, none⟩ = some (.int .i64 p) := g0.cell 0
  have a1 : w1.cell? ⟨w.heap.size, 1, none⟩ = some (.slice A n c) := g0.cell 1
  have b0 : w1.cell? ⟨w.heap.size + 1, 0, none⟩ = some (.int .i64 p) := g1.cell 0
  have b1 : w1.cell? ⟨w.heap.size + 1, 1, none⟩ = some (.slice B n d) := g1.cell 1
  have hB1 : Below w.heap.size w w1 := bvia (by go_grown) hb1
  clear K0 K1 g0 g1
  go_wp2_with fail
  refine (C2.out _ hB1).mono ?_
  rintro e w2 ⟨C, k, cc, rfl, hb2⟩
  go_wp2
  go_ret2
  exact ⟨rfl, bvia hB1 hb2⟩
end Go.Proofs.Ytnjenggijmbhcaa
