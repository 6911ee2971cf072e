/-
  Contracts of cloth: in, begun, crossings; what the line before each crossing says of the document's ends.
-/
import Derived.Test.YtpljaoagiaijiaaIt
import Derived.Laws.Rows
import Derived.Laws.Tables
namespace Go.Proofs.Ytpljaoagiaijiaa
open Go.RowKit
set_option maxRecDepth 100000 in
theorem in56 (x a b : Int) (r : Bool) (w : World) (h : (decide (a ≤ x) && decide (x ≤ b)) = r) :
    Calls Try.prog 51 #[.int .i64 x, .int .i64 a, .int .i64 b] w fun e w' => e = .returned (.bool r) ∧ w' = w := by
  subst h
  by_cases h1 : a ≤ x
  · by_cases h2 : x ≤ b
    · have d1 : decide (a ≤ x) = true := decide_eq_true h1
      have d2 : decide (x ≤ b) = true := decide_eq_true h2
      go_enter Try.func51, Try.ntmps51
      go_wp2
      go_ret
      exact ⟨ret_bool (by simp [d1, d2]), rfl⟩
    · have d1 : decide (a ≤ x) = true := decide_eq_true h1
      have d2 : decide (x ≤ b) = false := decide_eq_false h2
      go_enter Try.func51, Try.ntmps51
      go_wp2
      go_ret
      exact ⟨ret_bool (by simp), rfl⟩
  · have d1 : decide (a ≤ x) = false := decide_eq_false h1
    go_enter Try.func51, Try.ntmps51
    go_wp2
    go_ret
    exact ⟨ret_bool (by simp), rfl⟩
theorem lineL_set (k : Nat) (h : k < 48) : ((lineL k).map vInt ++ List.replicate (48 - k) (vInt 0)).set k (.int .i64 (k : Int)) = (lineL (k + 1)).map vInt ++ List.replicate (48 - (k + 1)) (vInt 0) := by
  have e : 48 - k = (48 - (k + 1)) + 1 := by omega
  rw [e, List.replicate_succ, List.set_append_right _ _ (by simp [lineL_len]), lineL_succ]
  simp [lineL_len]
theorem lineL_at (k : Nat) (h : k < 48) : ((lineL k).map vInt ++ List.replicate (48 - k) (vInt 0))[k]? = some (vInt 0) := by
  have e : 48 - k = (48 - (k + 1)) + 1 := by omega
  rw [e, List.replicate_succ, List.getElem?_append_right (by simp [lineL_len])]
  simp [lineL_len]
theorem Has.new2 {w : World} {o : Obj} {arr : Array Value} {t : TypeId} {cs : List Value} (h : arr = cs.toArray) : Has ((w.alloc o).alloc (.cells arr t)) (w.heap.size + 1) t cs := by
  have := Has.new (w := w.alloc o) (t := t) h
  rwa [World.size_alloc] at this
theorem Has.setRow {w : World} {g : Nat} {t : TypeId} {cs : List Value} (h : Has w g t cs) (ds : List Value) : Has (w.setRow g ds.toArray) g t ds := setRow_heap w g cs.toArray ds.toArray t _ h
theorem below_setRow {B : Nat} {a w : World} (h : Below B a w) {g : Nat} (hg : B ≤ g) (cs : Array Value) : Below B a (w.setRow g cs) :=
  ⟨h.os, h.tape, h.output, by simp; exact h.size, fun i hi => (setRow_other w g i cs (by omega)).trans (h.block i hi)⟩
set_option maxRecDepth 100000 in
theorem begun57 (w : World) : Calls Try.prog 37 #[] w fun e w' => e = .returned (.agg ((lineL 48).map vInt).toArray) ∧ Below w.heap.size w w' := by
  go_enter Try.func37, Try.ntmps37
  go_wp2
  go_loopw [3] (fun i wr => ∃ k : Nat, k ≤ 48 ∧ i = .int .i64 (k : Int) ∧ Has wr w.heap.size 74 (List.replicate 48 (vInt 0)) ∧ Has wr (w.heap.size + 1) 74 ((lineL k).map vInt ++ List.replicate (48 - k) (vInt 0)) ∧ Below w.heap.size w wr) (fun i _ => 48 - (intOf i).toNat)
  case atStart => exact ⟨0, Nat.zero_le _, rfl, (Has.new rfl).alloc _, Has.new2 rfl, by go_grown⟩
  case round =>
    obtain ⟨k, hk, rfl, hA, hB, hb⟩ := hrel
    obtain ⟨wo, rfl⟩ : ∃ wo : World, wo = wr := ⟨_, rfl⟩
    have HA := Lib.hid hA; clear hA
    have HB := Lib.hid hB; clear hB
    by_cases hlt : k < 48
    · have f1 := HB.out.free k
      have c1 : wo.cell? ⟨w.heap.size + 1, k, none⟩ = some (vInt 0) := (HB.out.cell k).trans (lineL_at k hlt)
      have q := HB.out.lt
      go_wp2
      go_roundw
      case rel =>
        refine ⟨k + 1, by omega, by go_num, HA.out.far (by omega) _ _, ?_, hb.setCell (by simp) _⟩
        have := HB.out.set k (.int .i64 (k : Int))
        rw [lineL_set k hlt] at this
        exact this
      case measure => first | (simp [intOf]; done) | (simp [intOf]; omega)
    · obtain rfl : k = 48 := by omega
      have hB' : Has wo (w.heap.size + 1) 74 ((lineL 48).map vInt) := by have := HB.out; simpa using this
      have hlen : ((lineL 48).map vInt).toArray.size = 48 := by simp [lineL_len]
      have hinfo : (Try.prog.info? 74).map (·.size) = some 48 := by kernel_rfl
      go_wp2_with (first
        | (refine wpList_load_row rfl 74 (.tmp 1) rfl (w.heap.size + 1) rfl 74 ((lineL 48).map vInt).toArray (0, 0) (.array 48 3) hB' (by kernel_rfl) rfl (by rw [hlen, hinfo]) ?_)
        | (refine wpList_store_row rfl 74 (.tmp 0) (.tmp 10) rfl w.heap.size ((lineL 48).map vInt).toArray rfl rfl 74 _ HA.out (by rw [hlen, hinfo]) (by rw [hlen]; rfl) (by simp [lineL]; intros; rfl) ?_))
      refine bodyPost_ret (v := .agg ((lineL 48).map vInt).toArray) (results_cell_row rfl _ _ w.heap.size 74 _ (0, 0) (.array 48 3) rfl (HA.out.setRow ((lineL 48).map vInt)) (by kernel_rfl) rfl (by rw [hlen, hinfo])) rfl ?_
      exact ⟨rfl, below_setRow hb (Nat.le_refl _) _⟩
theorem wpList_store_has {P : Program} {ops : Array Oper} {rest : List Oper} {o : Oper} {a : Act} {w : World} {Q : Exit → Act → World → Prop} (hgd : o.guard = none) (ty : TypeId) (x y : Operand) (ho : o.op = .store ty x y)
    (g : Nat) (cs : List Value) (hx : a.eval x = .pointer (some ⟨g, 0, none⟩)) (hy : a.eval y = .agg cs.toArray)
    (t : TypeId) (old : List Value) (hg : Has w g t old) (hi : (P.info? ty).map (·.size) = some cs.length)
    (hold : old.length = cs.length) (h1 : cs.all (·.oneCell') = true)
    (h : ∀ w2, Has w2 g t cs → But g w w2 → wpList P ops Q rest (a.put o.dst undef) w2) : wpList P ops Q (o :: rest) a w :=
  wpList_store_row hgd ty x y ho g cs.toArray hx hy t old.toArray hg (by simpa using hi) (by simpa using hold) (by simpa using h1) (h _ (hg.setRow cs) ⟨rfl, rfl, rfl, by simp, fun k _ hne => setRow_other w g k cs.toArray (fun e => hne (by rw [e]))⟩)
set_option maxRecDepth 100000 in
theorem crossings58 (cv : Value) (p : Option Addr) (t : Int) (A B : Option Addr) (n c m d : Nat) (w : World) (hcv : cv = vCloth t A n c B m d) :
    Calls Try.prog 52 #[cv, .pointer p] w fun e w' => e = .returned (.func (.func 67) #[] #[.pointer (some ⟨w.heap.size, 0, none⟩), .pointer (some ⟨w.heap.size + 1, 0, none⟩)]) ∧ w'.heap.size = w.heap.size + 2 ∧ Has w' w.heap.size 30 [.int .i64 t, .slice A n c, .slice B m d] ∧ Has w' (w.heap.size + 1) 91 [.pointer p] ∧ Below w.heap.size w w' := by
  subst hcv
  go_enter Try.func52, Try.ntmps52
  go_wp2
  go_ret
  exact ⟨rfl, by simp, (Has.new rfl).alloc _, Has.new2 rfl, by go_grown⟩
end Go.Proofs.Ytpljaoagiaijiaa
