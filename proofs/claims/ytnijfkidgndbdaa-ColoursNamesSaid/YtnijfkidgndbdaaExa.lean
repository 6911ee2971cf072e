/-
  Contracts of the law of chapter 21: Far, Example.
-/
import Derived.Test.YtnijfkidgndbdaaLea3
namespace Go.Proofs.Ytnijfkidgndbdaa
open Go.RowKit
def farB (t : Int) (n m : Nat) : Bool := (decide (400 < n) && decide (n ≤ 20000)) || decide (20100 < n) || decide (60 < t) || (decide (400 < m) && decide (m ≤ 6400)) || decide (6500 < m)
set_option maxRecDepth 100000 in
set_option maxHeartbeats 1000000 in
theorem far12 (t : Int) (A B : Option Addr) (n c m d : Nat) (w : World) :
    Calls Try.prog 12 #[vCloth t A n c B m d] w fun e w' => e = .returned (.bool (farB t n m)) ∧ Below w.heap.size w w' := by
  go_enter Try.func12, Try.ntmps12
  go_wp2
  all_goals go_ret
  all_goals refine ⟨ret_bool ?_, by go_grown⟩
  all_goals unfold farB
  all_goals rw [Bool.eq_iff_iff]
  all_goals simp
  all_goals omega
def exX : List Q4 := [⟨0, 1, 1, 2⟩, ⟨0, 0, 2, 0⟩, ⟨0, 2, 3, 1⟩, ⟨0, 1, 0, 3⟩]
def exP : List Q4 := [⟨0, 1, 0, 3⟩]
theorem rdQ_has {w : World} {g : Nat} {t : TypeId} {xs : List Q4} (h : Has w g t (xs.flatMap fun x => [.int .i64 x.a, .int .i64 x.b, .int .i64 x.c, .int .i64 x.d])) : RdQ w w.heap.size (some ⟨g, 0, none⟩) xs := fun k x hx => by
  have key : ∀ (ys : List Q4) (k : Nat), ys[k]? = some x → (ys.flatMap fun x => [Value.int .i64 x.a, .int .i64 x.b, .int .i64 x.c, .int .i64 x.d])[k * 4]? = some (.int .i64 x.a) ∧ (ys.flatMap fun x => [Value.int .i64 x.a, .int .i64 x.b, .int .i64 x.c, .int .i64 x.d])[k * 4 + 1]? = some (.int .i64 x.b) ∧ (ys.flatMap fun x => [Value.int .i64 x.a, .int .i64 x.b, .int .i64 x.c, .int .i64 x.d])[k * 4 + 2]? = some (.int .i64 x.c) ∧ (ys.flatMap fun x => [Value.int .i64 x.a, .int .i64 x.b, .int .i64 x.c, .int .i64 x.d])[k * 4 + 3]? = some (.int .i64 x.d) := by
    intro ys
    induction ys with
    | nil => intro k hk; simp at hk
    | cons y ys ih =>
      intro k hk
      cases k with
      | zero => simp at hk; subst hk; simp
      | succ k =>
        have := ih k (by simpa using hk)
        simp only [List.flatMap_cons, Nat.succ_mul]
        simp only [List.cons_append, List.nil_append]
        exact this
  obtain ⟨e0, e1, e2, e3⟩ := key xs k hx
  refine ⟨g, 0, rfl, h.lt, ?_, ?_, ?_, ?_⟩ <;> rw [Nat.zero_add, h.cell] <;> assumption
set_option maxRecDepth 100000 in
set_option maxHeartbeats 1000000 in
theorem example39 (w : World) : Calls Try.prog 39 #[] w fun e w' => ∃ A B, e = .returned (vCloth 4 A 4 4 B 1 1) ∧ RdQ w' w'.heap.size A exX ∧ RdQ w' w'.heap.size B exP ∧ Below w.heap.size w w' := by
  go_enter Try.func39, Try.ntmps39
  go_wp2
  refine post_cell (((Has.new rfl).alloc _).alloc _) rfl rfl rfl Try.underlying25 (by kernel_rfl) ?_
  refine ⟨some ⟨w.heap.size + 1, 0, none⟩, some ⟨w.heap.size + 1 + 1, 0, none⟩, rfl, ?_, ?_, by go_grown⟩
  · refine rdQ_has (t := 38) (Has.alloc ?_ _)
    exact Has.new2 rfl
  · refine rdQ_has (t := 70) ?_
    have := Has.new2 (w := w.alloc (.cells #[.int .i64 4, .slice (some ⟨w.heap.size + 1, 0, none⟩) 4 4, .slice (some ⟨w.heap.size + 1 + 1, 0, none⟩) 1 1] 25)) (o := .cells #[.int .i64 0, .int .i64 1, .int .i64 1, .int .i64 2, .int .i64 0, .int .i64 0, .int .i64 2, .int .i64 0, .int .i64 0, .int .i64 2, .int .i64 3, .int .i64 1, .int .i64 0, .int .i64 1, .int .i64 0, .int .i64 3] 38) (arr := #[.int .i64 0, .int .i64 1, .int .i64 0, .int .i64 3]) (t := 70) (cs := exP.flatMap fun x => [.int .i64 x.a, .int .i64 x.b, .int .i64 x.c, .int .i64 x.d]) rfl
    simpa using this
end Go.Proofs.Ytnijfkidgndbdaa
