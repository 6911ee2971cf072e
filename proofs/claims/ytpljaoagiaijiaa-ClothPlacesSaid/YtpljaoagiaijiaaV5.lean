/-
  Contracts of cloth: in, begun, crossings; what the line before each crossing says of the document's ends.
-/
import Derived.Test.YtpljaoagiaijiaaV1
import Derived.Test.YtpljaoagiaijiaaV4
import Derived.Laws.Rows
import Derived.Laws.Tables
import Derived.TacticsIn
import Derived.Laws.StructEq
namespace Go.Proofs.Ytpljaoagiaijiaa
open Go.RowKit
set_option maxRecDepth 100000 in
theorem in56 (x a b : Int) (r : Bool) (w : World) (h : (decide (a ≤ x) && decide (x ≤ b)) = r) :
    Calls Try.prog 51 #[.int .i64 x, .int .i64 a, .int .i64 b] w fun e w' => e = .returned (.bool r) ∧ w' = w := by
  subst h
  by_cases h1 : a ≤ x
  · by_cases h2 : x ≤ b
    · have d1 : decide (a ≤ x) = true := decide_eq_true h1
      have d2 : decide (x ≤ b) = true := decide_eq_true h2
      go_enter Try.func51, Try.ntmps51
      go_wp2
      go_ret
      exact ⟨ret_bool (by simp [d1, d2]), rfl⟩
    · have d1 : decide (a ≤ x) = true := decide_eq_true h1
      have d2 : decide (x ≤ b) = false := decide_eq_false h2
      go_enter Try.func51, Try.ntmps51
      go_wp2
      go_ret
      exact ⟨ret_bool (by simp), rfl⟩
  · have d1 : decide (a ≤ x) = false := decide_eq_false h1
    go_enter Try.func51, Try.ntmps51
    go_wp2
    go_ret
    exact ⟨ret_bool (by simp), rfl⟩
theorem lineL_set (k : Nat) (h : k < 48) : ((lineL k).map vInt ++ List.replicate (48 - k) (vInt 0)).set k (.int .i64 (k : Int)) = (lineL (k + 1)).map vInt ++ List.replicate (48 - (k + 1)) (vInt 0) := by
  have e : 48 - k = (48 - (k + 1)) + 1 := by omega
  rw [e, List.replicate_succ, List.set_append_right _ _ (by simp [lineL_len]), lineL_succ]
  simp [lineL_len]
theorem lineL_at (k : Nat) (h : k < 48) : ((lineL k).map vInt ++ List.replicate (48 - k) (vInt 0))[k]? = some (vInt 0) := by
  have e : 48 - k = (48 - (k + 1)) + 1 := by omega
  rw [e, List.replicate_succ, List.getElem?_append_right (by simp [lineL_len])]
  simp [lineL_len]
theorem Has.new2 {w : World} {o : Obj} {arr : Array Value} {t : TypeId} {cs : List Value} (h : arr = cs.toArray) : Has ((w.alloc o).alloc (.cells arr t)) (w.heap.size + 1) t cs := by
  have := Has.new (w := w.alloc o) (t := t) h
  rwa [World.size_alloc] at this
theorem Has.setRow {w : World} {g : Nat} {t : TypeId} {cs : List Value} (h : Has w g t cs) (ds : List Value) : Has (w.setRow g ds.toArray) g t ds := setRow_heap w g cs.toArray ds.toArray t _ h
theorem below_setRow {B : Nat} {a w : World} (h : Below B a w) {g : Nat} (hg : B ≤ g) (cs : Array Value) : Below B a (w.setRow g cs) :=
  ⟨h.os, h.tape, h.output, by simp; exact h.size, fun i hi => (setRow_other w g i cs (by omega)).trans (h.block i hi)⟩
set_option maxRecDepth 100000 in
theorem begun57 (w : World) : Calls Try.prog 37 #[] w fun e w' => e = .returned (.agg ((lineL 48).map vInt).toArray) ∧ Below w.heap.size w w' := by
  go_enter Try.func37, Try.ntmps37
  go_wp2
  go_loopw [3] (fun i wr => ∃ k : Nat, k ≤ 48 ∧ i = .int .i64 (k : Int) ∧ Has wr w.heap.size 74 (List.replicate 48 (vInt 0)) ∧ Has wr (w.heap.size + 1) 74 ((lineL k).map vInt ++ List.replicate (48 - k) (vInt 0)) ∧ Below w.heap.size w wr) (fun i _ => 48 - (intOf i).toNat)
  case atStart => exact ⟨0, Nat.zero_le _, rfl, (Has.new rfl).alloc _, Has.new2 rfl, by go_grown⟩
  case round =>
    obtain ⟨k, hk, rfl, hA, hB, hb⟩ := hrel
    obtain ⟨wo, rfl⟩ : ∃ wo : World, wo = wr := ⟨_, rfl⟩
    have HA := Lib.hid hA; clear hA
    have HB := Lib.hid hB; clear hB
    by_cases hlt : k < 48
    · have f1 := HB.out.free k
      have c1 : wo.cell? ⟨w.heap.size + 1, k, none⟩ = some (vInt 0) := (HB.out.cell k).trans (lineL_at k hlt)
      have q := HB.out.lt
      go_wp2
      go_roundw
      case rel =>
        refine ⟨k + 1, by omega, by go_num, HA.out.far (by omega) _ _, ?_, hb.setCell (by simp) _⟩
        have := HB.out.set k (.int .i64 (k : Int))
        rw [lineL_set k hlt] at this
        exact this
      case measure => first | (simp [intOf]; done) | (simp [intOf]; omega)
    · obtain rfl : k = 48 := by omega
      have hB' : Has wo (w.heap.size + 1) 74 ((lineL 48).map vInt) := by have := HB.out; simpa using this
      have hlen : ((lineL 48).map vInt).toArray.size = 48 := by simp [lineL_len]
      have hinfo : (Try.prog.info? 74).map (·.size) = some 48 := by kernel_rfl
      go_wp2_with (first
        | (refine wpList_load_row rfl 74 (.tmp 1) rfl (w.heap.size + 1) rfl 74 ((lineL 48).map vInt).toArray (0, 0) (.array 48 3) hB' (by kernel_rfl) rfl (by rw [hlen, hinfo]) ?_)
        | (refine wpList_store_row rfl 74 (.tmp 0) (.tmp 10) rfl w.heap.size ((lineL 48).map vInt).toArray rfl rfl 74 _ HA.out (by rw [hlen, hinfo]) (by rw [hlen]; rfl) (by simp [lineL]; intros; rfl) ?_))
      refine bodyPost_ret (v := .agg ((lineL 48).map vInt).toArray) (results_cell_row rfl _ _ w.heap.size 74 _ (0, 0) (.array 48 3) rfl (HA.out.setRow ((lineL 48).map vInt)) (by kernel_rfl) rfl (by rw [hlen, hinfo])) rfl ?_
      exact ⟨rfl, below_setRow hb (Nat.le_refl _) _⟩
theorem wpList_store_has {P : Program} {ops : Array Oper} {rest : List Oper} {o : Oper} {a : Act} {w : World} {Q : Exit → Act → World → Prop} (hgd : o.guard = none) (ty : TypeId) (x y : Operand) (ho : o.op = .store ty x y)
    (g : Nat) (cs : List Value) (hx : a.eval x = .pointer (some ⟨g, 0, none⟩)) (hy : a.eval y = .agg cs.toArray)
    (t : TypeId) (old : List Value) (hg : Has w g t old) (hi : (P.info? ty).map (·.size) = some cs.length)
    (hold : old.length = cs.length) (h1 : cs.all (·.oneCell') = true)
    (h : ∀ w2, Has w2 g t cs → But g w w2 → wpList P ops Q rest (a.put o.dst undef) w2) : wpList P ops Q (o :: rest) a w :=
  wpList_store_row hgd ty x y ho g cs.toArray hx hy t old.toArray hg (by simpa using hi) (by simpa using hold) (by simpa using h1) (h _ (hg.setRow cs) ⟨rfl, rfl, rfl, by simp, fun k _ hne => setRow_other w g k cs.toArray (fun e => hne (by rw [e]))⟩)
set_option maxRecDepth 100000 in
theorem crossings58 (cv : Value) (p : Option Addr) (t : Int) (A B : Option Addr) (n c m d : Nat) (w : World) (hcv : cv = vCloth t A n c B m d) :
    Calls Try.prog 52 #[cv, .pointer p] w fun e w' => e = .returned (.func (.func 67) #[] #[.pointer (some ⟨w.heap.size, 0, none⟩), .pointer (some ⟨w.heap.size + 1, 0, none⟩)]) ∧ w'.heap.size = w.heap.size + 2 ∧ Has w' w.heap.size 30 [.int .i64 t, .slice A n c, .slice B m d] ∧ Has w' (w.heap.size + 1) 91 [.pointer p] ∧ Below w.heap.size w w' := by
  subst hcv
  go_enter Try.func52, Try.ntmps52
  go_wp2
  go_ret
  exact ⟨rfl, by simp, (Has.new rfl).alloc _, Has.new2 rfl, by go_grown⟩
end Go.Proofs.Ytpljaoagiaijiaa
/-
  Contracts: stitches.twists, letter by letter.
-/
namespace Go.Proofs.Ytpljaoagiaijiaa
open Go.RowKit
/-- how often each place is crossed by a letter -/
def twV (c : UInt8) : List Int :=
  if c = 67 then [0, 1, 0]
  else if c = 84 then [-1, 0, -1]
  else if c = 76 then [-1, 0, 0]
  else if c = 82 then [0, 0, -1]
  else if c = 80 then [0, 0, 0]
  else if c = 99 then [0, -1, 0]
  else if c = 116 then [1, 0, 1]
  else if c = 108 then [1, 0, 0]
  else if c = 114 then [0, 0, 1]
  else [0, 0, 0]
set_option maxRecDepth 100000 in
theorem tw67 (w : World) : Calls Try.prog 72 #[.int .u8 67] w fun e w' => e = .returned (.agg #[.int .i64 0, .int .i64 1, .int .i64 0]) ∧ Below w.heap.size w w' := by
  have b0 : bits BinOp.or IntKind.u8 67 32 = 99 := by decide
  go_enter Try.func72, Try.ntmps72
  go_wp2
  refine bodyPost_ret (v := .agg #[.int .i64 0, .int .i64 1, .int .i64 0]) (results_cell_row rfl _ _ w.heap.size 109 _ (0, 0) (.array 3 3) rfl ((Has.new rfl).alloc _) (by kernel_rfl) rfl (by kernel_rfl)) rfl ?_
  exact ⟨rfl, by go_grown⟩
set_option maxRecDepth 100000 in
theorem tw84 (w : World) : Calls Try.prog 72 #[.int .u8 84] w fun e w' => e = .returned (.agg #[.int .i64 (-1), .int .i64 0, .int .i64 (-1)]) ∧ Below w.heap.size w w' := by
  have b0 : bits BinOp.or IntKind.u8 84 32 = 116 := by decide
  go_enter Try.func72, Try.ntmps72
  go_wp2
  refine bodyPost_ret (v := .agg #[.int .i64 (-1), .int .i64 0, .int .i64 (-1)]) (results_cell_row rfl _ _ w.heap.size 109 _ (0, 0) (.array 3 3) rfl ((Has.new rfl).alloc _) (by kernel_rfl) rfl (by kernel_rfl)) rfl ?_
  exact ⟨rfl, by go_grown⟩
set_option maxRecDepth 100000 in
theorem tw76 (w : World) : Calls Try.prog 72 #[.int .u8 76] w fun e w' => e = .returned (.agg #[.int .i64 (-1), .int .i64 0, .int .i64 0]) ∧ Below w.heap.size w w' := by
  have b0 : bits BinOp.or IntKind.u8 76 32 = 108 := by decide
  go_enter Try.func72, Try.ntmps72
  go_wp2
  refine bodyPost_ret (v := .agg #[.int .i64 (-1), .int .i64 0, .int .i64 0]) (results_cell_row rfl _ _ w.heap.size 109 _ (0, 0) (.array 3 3) rfl ((Has.new rfl).alloc _) (by kernel_rfl) rfl (by kernel_rfl)) rfl ?_
  exact ⟨rfl, by go_grown⟩
set_option maxRecDepth 100000 in
theorem tw82 (w : World) : Calls Try.prog 72 #[.int .u8 82] w fun e w' => e = .returned (.agg #[.int .i64 0, .int .i64 0, .int .i64 (-1)]) ∧ Below w.heap.size w w' := by
  have b0 : bits BinOp.or IntKind.u8 82 32 = 114 := by decide
  go_enter Try.func72, Try.ntmps72
  go_wp2
  refine bodyPost_ret (v := .agg #[.int .i64 0, .int .i64 0, .int .i64 (-1)]) (results_cell_row rfl _ _ w.heap.size 109 _ (0, 0) (.array 3 3) rfl ((Has.new rfl).alloc _) (by kernel_rfl) rfl (by kernel_rfl)) rfl ?_
  exact ⟨rfl, by go_grown⟩
set_option maxRecDepth 100000 in
theorem tw80 (w : World) : Calls Try.prog 72 #[.int .u8 80] w fun e w' => e = .returned (.agg #[.int .i64 0, .int .i64 0, .int .i64 0]) ∧ Below w.heap.size w w' := by
  have b0 : bits BinOp.or IntKind.u8 80 32 = 112 := by decide
  go_enter Try.func72, Try.ntmps72
  go_wp2
  refine bodyPost_ret (v := .agg #[.int .i64 0, .int .i64 0, .int .i64 0]) (results_cell_row rfl _ _ w.heap.size 109 _ (0, 0) (.array 3 3) rfl ((Has.new rfl).alloc _) (by kernel_rfl) rfl (by kernel_rfl)) rfl ?_
  exact ⟨rfl, by go_grown⟩
set_option maxRecDepth 100000 in
theorem tw99 (w : World) : Calls Try.prog 72 #[.int .u8 99] w fun e w' => e = .returned (.agg #[.int .i64 0, .int .i64 (-1), .int .i64 0]) ∧ Below w.heap.size w w' := by
  have b0 : bits BinOp.or IntKind.u8 99 32 = 99 := by decide
  go_enter Try.func72, Try.ntmps72
  go_wp2
  refine bodyPost_ret (v := .agg #[.int .i64 0, .int .i64 (-1), .int .i64 0]) (results_cell_row rfl _ _ w.heap.size 109 _ (0, 0) (.array 3 3) rfl ((Has.new rfl).alloc _) (by kernel_rfl) rfl (by kernel_rfl)) rfl ?_
  exact ⟨rfl, by go_grown⟩
set_option maxRecDepth 100000 in
theorem tw116 (w : World) : Calls Try.prog 72 #[.int .u8 116] w fun e w' => e = .returned (.agg #[.int .i64 1, .int .i64 0, .int .i64 1]) ∧ Below w.heap.size w w' := by
  have b0 : bits BinOp.or IntKind.u8 116 32 = 116 := by decide
  go_enter Try.func72, Try.ntmps72
  go_wp2
  refine bodyPost_ret (v := .agg #[.int .i64 1, .int .i64 0, .int .i64 1]) (results_cell_row rfl _ _ w.heap.size 109 _ (0, 0) (.array 3 3) rfl ((Has.new rfl).alloc _) (by kernel_rfl) rfl (by kernel_rfl)) rfl ?_
  exact ⟨rfl, by go_grown⟩
set_option maxRecDepth 100000 in
theorem tw108 (w : World) : Calls Try.prog 72 #[.int .u8 108] w fun e w' => e = .returned (.agg #[.int .i64 1, .int .i64 0, .int .i64 0]) ∧ Below w.heap.size w w' := by
  have b0 : bits BinOp.or IntKind.u8 108 32 = 108 := by decide
  go_enter Try.func72, Try.ntmps72
  go_wp2
  refine bodyPost_ret (v := .agg #[.int .i64 1, .int .i64 0, .int .i64 0]) (results_cell_row rfl _ _ w.heap.size 109 _ (0, 0) (.array 3 3) rfl ((Has.new rfl).alloc _) (by kernel_rfl) rfl (by kernel_rfl)) rfl ?_
  exact ⟨rfl, by go_grown⟩
set_option maxRecDepth 100000 in
theorem tw114 (w : World) : Calls Try.prog 72 #[.int .u8 114] w fun e w' => e = .returned (.agg #[.int .i64 0, .int .i64 0, .int .i64 1]) ∧ Below w.heap.size w w' := by
  have b0 : bits BinOp.or IntKind.u8 114 32 = 114 := by decide
  go_enter Try.func72, Try.ntmps72
  go_wp2
  refine bodyPost_ret (v := .agg #[.int .i64 0, .int .i64 0, .int .i64 1]) (results_cell_row rfl _ _ w.heap.size 109 _ (0, 0) (.array 3 3) rfl ((Has.new rfl).alloc _) (by kernel_rfl) rfl (by kernel_rfl)) rfl ?_
  exact ⟨rfl, by go_grown⟩
theorem let_cases {c : UInt8} (h : isLet c = true) : c = 67 ∨ c = 84 ∨ c = 76 ∨ c = 82 ∨ c = 80 ∨ c = 99 ∨ c = 116 ∨ c = 108 ∨ c = 114 := by
  unfold isLet letters at h
  simp at h
  exact h
theorem twV_len (c : UInt8) : (twV c).length = 3 := by
  unfold twV
  repeat' split
  all_goals rfl
theorem twists72 (c : UInt8) (h : isLet c = true) (w : World) : Calls Try.prog 72 #[.int .u8 c.toNat] w fun e w' => e = .returned (.agg ((twV c).map vInt).toArray) ∧ Below w.heap.size w w' := by
  rcases let_cases h with rfl | rfl | rfl | rfl | rfl | rfl | rfl | rfl | rfl
  · exact tw67 w
  · exact tw84 w
  · exact tw76 w
  · exact tw82 w
  · exact tw80 w
  · exact tw99 w
  · exact tw116 w
  · exact tw108 w
  · exact tw114 w
end Go.Proofs.Ytpljaoagiaijiaa
/-
  Plain law: the line of 48 before each crossing says the same as the document's ends over the cloth's own threads.
-/
namespace Go.Proofs.Ytpljaoagiaijiaa
open Go.RowKit
/-- a crossing came with the two threads that it names -/
def metOk (p : Met) : Bool := endOk p.2.1 p.2.2 p.1
theorem lineL_take (T : Nat) (h : T ≤ 48) : (lineL 48).take T = lineL T := by
  unfold lineL
  rw [← List.map_take, List.take_range]
  rw [Nat.min_eq_left h]
theorem lineTo_succ {xs : List Q4} {L : List Int} {k : Nat} {x : Q4} (h : xs[k]? = some x) : lineTo xs L (k + 1) = swapL (lineTo xs L k) x := by
  show (match xs[k]? with | some x => swapL (lineTo xs L k) x | none => lineTo xs L k) = _
  rw [h]
theorem endStep_line {L : List Int} {T : Nat} {x : Q4} (hT : T ≤ L.length) (hx : x.b.toNat + 1 < T) : endStep (L.take T) x = if endOk (L.getD x.b.toNat 0) (L.getD (x.b.toNat + 1) 0) x then some ((swapL L x).take T) else none := by
  have h0 : x.b.toNat < L.length := by omega
  have h1 : x.b.toNat + 1 < L.length := by omega
  have e0 : (L.take T)[x.b.toNat]? = some (L.getD x.b.toNat 0) := by
    rw [List.getElem?_take_of_lt (by omega), List.getD_eq_getElem?_getD, List.getElem?_eq_getElem h0]; rfl
  have e1 : (L.take T)[x.b.toNat + 1]? = some (L.getD (x.b.toNat + 1) 0) := by
    rw [List.getElem?_take_of_lt (by omega), List.getD_eq_getElem?_getD, List.getElem?_eq_getElem h1]; rfl
  rw [endStep_get rfl e0 e1]
  unfold swapL
  rw [List.take_set, List.take_set]
theorem met_get {xs : List Q4} {L : List Int} {k : Nat} {x : Q4} (h : xs[k]? = some x) : met xs L k = (x, (lineTo xs L k).getD x.b.toNat 0, (lineTo xs L k).getD (x.b.toNat + 1) 0) := by
  unfold met
  rw [List.getD_eq_getElem?_getD, h]; rfl
theorem ends_came (xs : List Q4) (T : Nat) (hT : T ≤ 48) (hx : ∀ x ∈ xs, 0 ≤ x.b ∧ x.b ≤ (T : Int) - 2) : ∀ k, k ≤ xs.length → (∀ p ∈ came xs (lineL 48) k, metOk p = true) → endsTo xs (lineL T) k = some ((lineTo xs (lineL 48) k).take T)
  | 0, _, _ => by show some _ = some _; rw [lineTo, lineL_take T hT]
  | k + 1, hk, h => by
    obtain ⟨x, hxk⟩ := get_of_lt (l := xs) (k := k) (by omega)
    have ih := ends_came xs T hT hx k (by omega) (fun p hp => h p (by rw [came_succ]; exact List.mem_append_left _ hp))
    have hb := hx x (mem_of_get hxk)
    have hm := h (met xs (lineL 48) k) (by rw [came_succ]; simp)
    rw [met_get hxk] at hm
    rw [endsTo_succ ih hxk, lineTo_succ hxk, endStep_line (by rw [lineTo_len, lineL_len]; exact hT) (by omega)]
    exact if_pos hm
theorem ends_ok {t : Int} {xs : List Q4} (h0 : 2 ≤ t) (ht : t ≤ 48) (hx : ∀ x ∈ xs, okC t x = true) (h : ∀ p ∈ came xs (lineL 48) xs.length, metOk p = true) : endsOk t xs = true := by
  unfold endsOk
  rw [ends_came xs t.toNat (by omega) (fun x hm => by have := hx x hm; unfold okC at this; simp at this; omega) _ (Nat.le_refl _) h]; rfl
theorem ends_bad {t : Int} {xs : List Q4} (h0 : 2 ≤ t) (ht : t ≤ 48) (hx : ∀ x ∈ xs, okC t x = true) {k : Nat} (hk : k ≤ xs.length) {ini : List Met} {last : Met} (hc : came xs (lineL 48) k = ini ++ [last]) (hi : ∀ p ∈ ini, metOk p = true) (hl : metOk last = false) : endsOk t xs = false := by
  obtain ⟨j, rfl⟩ : ∃ j, k = j + 1 := by
    cases k with
    | zero => simp [came] at hc
    | succ j => exact ⟨j, rfl⟩
  rw [came_succ] at hc
  obtain ⟨rfl, e5⟩ := List.append_inj' hc rfl
  obtain rfl : met xs (lineL 48) j = last := by simpa using e5
  obtain ⟨x, hxk⟩ := get_of_lt (l := xs) (k := j) (by omega)
  have hr : ∀ x ∈ xs, 0 ≤ x.b ∧ x.b ≤ (t.toNat : Int) - 2 := fun x hm => by have := hx x hm; unfold okC at this; simp at this; omega
  have ih := ends_came xs t.toNat (by omega) hr j (by omega) hi
  have hb := hr x (mem_of_get hxk)
  rw [met_get hxk] at hl
  have hn : endsTo xs (lineL t.toNat) (j + 1) = none := by
    rw [endsTo_succ ih hxk, endStep_line (by rw [lineTo_len, lineL_len]; omega) (by omega)]
    have hl2 : endOk ((lineTo xs (lineL 48) j).getD x.b.toNat 0) ((lineTo xs (lineL 48) j).getD (x.b.toNat + 1) 0) x = false := hl
    exact if_neg (by rw [hl2]; decide)
  unfold endsOk
  rw [endsTo_none hn _ hk]; rfl
theorem ownFrom_has {β : Type} {B g : Nat} {t : TypeId} {cs : List Value} (hg : g < B) : OwnFrom B (fun (_ : β) W => Has W g t cs) := fun _ _ _ _ hs hw hr => hs.same (hw.block g hs.lt (fun e => by have := (hr g e.symm).1; omega))
theorem postM_cell {P : Program} {fn : Func} {R : Ending → World → Prop} {tmps : Array Value} {w : World} {p : Tmp} {ty : TypeId} {g : Nat} {t : TypeId} {k : IntKind} {x : Int} (h : Has w g t [.int k x]) (hres : fn.results = #[.cell p ty])
    (hp : tmps.getD p undef = .pointer (some ⟨g, 0, none⟩)) (hu : ∀ w, (isAgg ty).run P w = .ok false w) (hR : R (.returned (.int k x)) w) : LeavesIn Fence.wide 0 P fn tmps R [] .returning w := by
  refine ⟨.int k x, ?_, hR⟩
  have hc := h.cell 0
  have hp' : tmps[p]?.getD undef = .pointer (some ⟨g, 0, none⟩) := by simpa using hp
  simp at hc
  simp [results, hres, hp', asAddr, loadVar, Sem.run_bind, hu, Result.andThen, go_sem, hc]
theorem below_put {B : Nat} {a w : World} (h : Below B a w) {D : Nat} (hD : B ≤ D) (o : Obj) : Below B a (w.putObj D o) :=
  ⟨h.os, h.tape, h.output, by simpa [World.putObj] using h.size, fun r hr => (World.putObj_heap_other (by omega)).trans (h.block r hr)⟩
theorem postM_ret {P : Program} {fn : Func} {R : Ending → World → Prop} {a : Act} {w : World} {p : Tmp} {ty : TypeId} {g : Nat} {t : TypeId} {k : IntKind} {x : Int} (h : Has w g t [.int k x]) (hres : fn.results = #[.cell p ty])
    (hp : a.tmps.getD p undef = .pointer (some ⟨g, 0, none⟩)) (hu : ∀ w, (isAgg ty).run P w = .ok false w) (hd : a.defers = []) (hR : R (.returned (.int k x)) w) : bodyPostM Fence.wide 0 P fn R .ret a w := by
  show LeavesInM Fence.wide 0 P fn a.tmps R a.defers .returning w
  rw [hd]
  exact postM_cell h hres hp hu hR
theorem postM_mark {P : Program} {fn : Func} {R : Ending → World → Prop} {a : Act} {w : World} {p : Tmp} {ty : TypeId} {g D : Nat} {t : TypeId} {k : IntKind} {x : Int} (h : Has w g t [.int k x]) (hres : fn.results = #[.cell p ty])
    (hp : a.tmps.getD p undef = .pointer (some ⟨g, 0, none⟩)) (hu : ∀ w, (isAgg ty).run P w = .ok false w) (hd : a.defers = [{ target := .collected D, args := #[] }]) (hD : w.heap[D]? = some (.deferred (some [])))
    (hR : R (.returned (.int k x)) (w.putObj D (.deferred none))) : bodyPostM Fence.wide 0 P fn R .ret a w := by
  show LeavesInM Fence.wide 0 P fn a.tmps R a.defers .returning w
  rw [hd]
  have hne : g ≠ D := by
    intro e; subst e; unfold Has at h; rw [h] at hD; cases hD
  refine ⟨by simp, .inl ⟨_, _, rfl, run_takeDeferred hD, ?_⟩⟩
  exact postM_cell (h.same (World.putObj_heap_other hne)) hres hp hu hR
end Go.Proofs.Ytpljaoagiaijiaa
/-
  Contract of cloth.Check: the document's error.
-/
namespace Go.Proofs.Ytpljaoagiaijiaa
open Go.RowKit
attribute [local go_sem] Oper.semAt_some
theorem next_all {g : Bool} {p : Q4 → Bool} {xs : List Q4} {k : Nat} {x : Q4} {gb r : Bool} (hG : (g && (xs.take k).all p) = gb) (hx : xs[k]? = some x) (hr : p x = r) : (g && (xs.take (k + 1)).all p) = (gb && r) := by
  rw [all_step hx, ← Bool.and_assoc, hG, hr]
theorem okP_r {t : Int} {x : Q4} {r : Bool} (h : (decide (0 ≤ x.b ∧ x.b ≤ t - 2 ∧ 0 ≤ x.a ∧ 0 ≤ x.c ∧ x.c ≤ t - 1 ∧ 0 ≤ x.d ∧ x.d ≤ t - 1 ∧ ¬ x.c = x.d)) = r) : okP t x = r := by
  subst h
  unfold okP
  rw [Bool.eq_iff_iff]
  simp
  omega
theorem okC_r {t : Int} {x : Q4} {r : Bool} (h : (decide (0 ≤ x.b ∧ x.b ≤ t - 2 ∧ 0 ≤ x.a)) = r) : okC t x = r := by
  subst h
  unfold okC
  rw [Bool.eq_iff_iff]
  simp
  omega
theorem eqArr2 (a b c d : Int) (w : World) : (Op.equalIn 10000 54 (.agg #[.int .i64 a, .int .i64 b]) (.agg #[.int .i64 c, .int .i64 d])).run Try.prog w = .ok (a == c && b == d) w := by
  have u3 := Try.underlying3
  have a3 := Try.isAgg3
  have z3 := Try.sizeOf3
  rw [show (10000 : Nat) = 9999 + 1 from rfl, Op.equalIn]
  simp only [Sem.run_bind, run_underlying Try.underlying54, Result.andThen_ok]
  simp only [Std.Legacy.Range.forIn_eq_forIn_range', Std.Legacy.Range.size, Nat.sub_zero, Nat.add_sub_cancel, Nat.div_one, List.range'_succ, List.range'_zero, List.forIn_cons, List.forIn_nil]
  go_simp
  by_cases h1 : a = c <;> by_cases h2 : b = d <;> simp [h1, h2]
theorem eqArr2_is {a b c d : Int} {r : Bool} (h : (a == c && b == d) = r) (w : World) : (Op.equalIn 10000 54 (.agg #[.int .i64 a, .int .i64 b]) (.agg #[.int .i64 c, .int .i64 d])).run Try.prog w = .ok r w := by
  rw [eqArr2, h]
set_option maxRecDepth 100000 in
set_option maxHeartbeats 8000000 in
theorem check42 (t : Int) (A B : Option Addr) (n c m d : Nat) (xs ps : List Q4) (w : World) (hn : n ≤ 9223372036854775807) (hm : m ≤ 9223372036854775807) (hx : RdQ w w.heap.size A xs) (hp : RdQ w w.heap.size B ps) (hl : xs.length = n) (hl' : ps.length = m) (ht0 : -9223372036854775808 ≤ t) :
    Calls Try.prog 28 #[vCloth t A n c B m d] w fun e w' => e = .returned (.int .i64 (ckE t xs ps)) ∧ Below w.heap.size w w' := by
  have HX := Lib.hid hx; clear hx
  have HP := Lib.hid hp; clear hp
  have HL := Lib.hid hl; have HL' := Lib.hid hl'
  have K0 : Has ((w.alloc (.cells #[.int .i64 t, .slice A n c, .slice B m d] 30)).alloc (.cells #[.int .i64 0] 31)) w.heap.size 30 [.int .i64 t, .slice A n c, .slice B m d] := (Has.new rfl).alloc _
  have K1 : Has ((w.alloc (.cells #[.int .i64 t, .slice A n c, .slice B m d] 30)).alloc (.cells #[.int .i64 0] 31)) (w.heap.size + 1) 31 [.int .i64 0] := Has.new2 rfl
  have B0 : Below w.heap.size w ((w.alloc (.cells #[.int .i64 t, .slice A n c, .slice B m d] 30)).alloc (.cells #[.int .i64 0] 31)) := by go_grown
  have HK0 := Lib.hid K0; have HK1 := Lib.hid K1; have HB0 := Lib.hid B0; clear K0 K1 B0
  by_cases h1 : 48 < t
  · have e : ckE t xs ps = 3 := by unfold ckE; rw [if_pos (by omega)]
    rw [e]; clear e
    refine (callsIn_wide (n := 0)).1 (callsIn_of_wp_marks Try.func28 rfl trivial ?_)
    simp only [Try.ntmps28, List.size_toArray, List.length_cons, List.length_nil, Nat.reduceAdd, Nat.reduceSub, Array.replicate_succ, Array.replicate_zero, List.push_toArray, List.append_toArray, List.nil_append, List.cons_append]
    refine wpIn_wide.2 ?_
    go_wp2
    refine postM_ret (Has.new2 rfl) rfl rfl Try.isAgg31 rfl ?_
    exact ⟨rfl, by go_grown⟩
  by_cases h2 : 20000 < (n : Int)
  · have e : ckE t xs ps = 3 := by unfold ckE; rw [if_pos (by omega)]
    rw [e]; clear e
    refine (callsIn_wide (n := 0)).1 (callsIn_of_wp_marks Try.func28 rfl trivial ?_)
    simp only [Try.ntmps28, List.size_toArray, List.length_cons, List.length_nil, Nat.reduceAdd, Nat.reduceSub, Array.replicate_succ, Array.replicate_zero, List.push_toArray, List.append_toArray, List.nil_append, List.cons_append]
    refine wpIn_wide.2 ?_
    go_wp2
    refine postM_ret (Has.new2 rfl) rfl rfl Try.isAgg31 rfl ?_
    exact ⟨rfl, by go_grown⟩
  by_cases h3 : 6400 < (m : Int)
  · have e : ckE t xs ps = 3 := by unfold ckE; rw [if_pos (by omega)]
    rw [e]; clear e
    refine (callsIn_wide (n := 0)).1 (callsIn_of_wp_marks Try.func28 rfl trivial ?_)
    simp only [Try.ntmps28, List.size_toArray, List.length_cons, List.length_nil, Nat.reduceAdd, Nat.reduceSub, Array.replicate_succ, Array.replicate_zero, List.push_toArray, List.append_toArray, List.nil_append, List.cons_append]
    refine wpIn_wide.2 ?_
    go_wp2
    refine postM_ret (Has.new2 rfl) rfl rfl Try.isAgg31 rfl ?_
    exact ⟨rfl, by go_grown⟩
  have HR : Hid (ckE t xs ps = if numsOk t xs ps = false then 2 else if endsOk t xs = false then 6 else 0) := by show ckE t xs ps = _; unfold ckE; rw [if_neg (by omega)]
  generalize ckE t xs ps = r at *
  have d1 : decide (48 < t) = false := decide_eq_false h1
  have d2 : decide ((20000 : Int) < n) = false := decide_eq_false h2
  have d3 : decide ((6400 : Int) < m) = false := decide_eq_false h3
  clear hl hl'
  refine (callsIn_wide (n := 0)).1 (callsIn_of_wp_marks Try.func28 rfl trivial ?_)
  simp only [Try.ntmps28, List.size_toArray, List.length_cons, List.length_nil, Nat.reduceAdd, Nat.reduceSub, Array.replicate_succ, Array.replicate_zero, List.push_toArray, List.append_toArray, List.nil_append, List.cons_append]
  refine wpIn_wide.2 ?_
  go_wp2
  go_loopw [3, 32] (fun g i wr => ∃ k : Nat, k ≤ n ∧ g = .bool (decide (2 ≤ t) && (xs.take k).all (okC t)) ∧ i = .int .i64 (k : Int) ∧ Below w.heap.size w wr ∧ Has wr w.heap.size 30 [.int .i64 t, .slice A n c, .slice B m d] ∧ Has wr (w.heap.size + 1) 31 [.int .i64 0]) (fun _ i _ => n - (intOf i).toNat)
  case atStart => exact ⟨0, Nat.zero_le _, by simp, rfl, HB0.out, HK0.out, HK1.out⟩
  case round =>
    clear HB0 HK0 HK1
    obtain ⟨k, hk, rfl, rfl, hb, hh, hh1⟩ := hrel
    obtain ⟨wo, rfl⟩ : ∃ wo : World, wo = wr := ⟨_, rfl⟩
    have HH := Lib.hid hh
    have a0 : wo.cell? ⟨w.heap.size, 0, none⟩ = some (.int .i64 t) := hh.cell 0
    have a1 : wo.cell? ⟨w.heap.size, 1, none⟩ = some (.slice A n c) := hh.cell 1
    have a2 : wo.cell? ⟨w.heap.size, 2, none⟩ = some (.slice B m d) := hh.cell 2
    have q := hh.lt
    have HE := Lib.hid hh1
    clear hh hh1
    by_cases hlt : k < n
    · obtain ⟨x, hx⟩ := get_of_lt (l := xs) (k := k) (by rw [HL.out]; exact hlt)
      obtain ⟨ba, o, rfl, hba, c0, c1, c2, c3⟩ := (HX.out.below hb hb.size) _ x hx
      have HXk := Lib.hid hx; clear hx
      generalize hG : (decide (2 ≤ t) && (xs.take k).all (okC t)) = gb
      have HG := Lib.hid hG
      cases gb with
      | false =>
        clear hG
        go_wp2
        go_roundw
        case rel => exact ⟨k + 1, by omega, by rw [next_all HG.out HXk.out rfl]; rfl, by go_num, hb.alloc (by omega) _, HH.out.alloc _, HE.out.alloc _⟩
        case measure => first | (simp [intOf]; done) | (simp [intOf]; omega)
      | true =>
        have h2t : 2 ≤ t := by simp only [Bool.and_eq_true, decide_eq_true_eq] at hG; exact hG.1
        clear hG
        have i1 : IntKind.i64.wrap (t - 2) = t - 2 := IntWalk.i64_in _ (by omega)
        have H2t := Lib.hid h2t; clear h2t
        by_cases hin : 0 ≤ x.b ∧ x.b ≤ t - 2
        · have hd : (decide (0 ≤ x.b) && decide (x.b ≤ t - 2)) = true := by simp; exact hin
          go_wp2_with (go_at_call 51; refine (in56 _ _ _ true _ hd).mono ?_; rintro e w1 ⟨rfl, rfl⟩)
          go_roundw
          case rel => exact ⟨k + 1, by omega, by rw [next_all HG.out HXk.out (okC_r (r := decide (0 ≤ x.a)) (by congr 1; simp; omega))]; rfl, by go_num, hb.alloc (by omega) _, HH.out.alloc _, HE.out.alloc _⟩
          case measure => first | (simp [intOf]; done) | (simp [intOf]; omega)
        · have hd : (decide (0 ≤ x.b) && decide (x.b ≤ t - 2)) = false := by simp; omega
          go_wp2_with (go_at_call 51; refine (in56 _ _ _ false _ hd).mono ?_; rintro e w1 ⟨rfl, rfl⟩)
          go_roundw
          case rel => exact ⟨k + 1, by omega, by rw [next_all HG.out HXk.out (okC_r (r := false) (by simp; omega))]; rfl, by go_num, hb.alloc (by omega) _, HH.out.alloc _, HE.out.alloc _⟩
          case measure => first | (simp [intOf]; done) | (simp [intOf]; omega)
    · obtain rfl : k = n := by omega
      have HA' : Hid (xs.take k = xs) := List.take_of_length_le (by rw [HL.out]; exact Nat.le_refl _)
      rw [HA'.out]
      clear HA'
      generalize hG1 : (decide (2 ≤ t) && xs.all (okC t)) = g1
      have HG1 := Lib.hid hG1
      clear hG1
      go_wp2
      go_loopw [3, 54] (fun g i wr => ∃ j : Nat, j ≤ m ∧ g = .bool (g1 && (ps.take j).all (okP t)) ∧ i = .int .i64 (j : Int) ∧ Below w.heap.size w wr ∧ Has wr w.heap.size 30 [.int .i64 t, .slice A k c, .slice B m d] ∧ Has wr (w.heap.size + 1) 31 [.int .i64 0]) (fun _ i _ => m - (intOf i).toNat)
      case atStart => exact ⟨0, Nat.zero_le _, by simp, rfl, hb, HH.out, HE.out⟩
      case round =>
        clear HH HE hb a0 a1 a2 q
        obtain ⟨j, hj, rfl, rfl, hb, hh, hh1⟩ := hrel
        obtain ⟨wo, rfl⟩ : ∃ wo : World, wo = wr := ⟨_, rfl⟩
        have HH := Lib.hid hh
        have a0 : wo.cell? ⟨w.heap.size, 0, none⟩ = some (.int .i64 t) := hh.cell 0
        have a1 : wo.cell? ⟨w.heap.size, 1, none⟩ = some (.slice A k c) := hh.cell 1
        have a2 : wo.cell? ⟨w.heap.size, 2, none⟩ = some (.slice B m d) := hh.cell 2
        have q := hh.lt
        have HE := Lib.hid hh1
        have q1 := hh1.lt
        have e0 : wo.cell? ⟨w.heap.size + 1, 0, none⟩ = some (.int .i64 0) := hh1.cell 0
        have e1 := hh1.free 0
        clear hh hh1
        by_cases hlt : j < m
        · clear e0 e1
          obtain ⟨x, hx⟩ := get_of_lt (l := ps) (k := j) (by rw [HL'.out]; exact hlt)
          obtain ⟨ba, o, rfl, hba, c0, c1, c2, c3⟩ := (HP.out.below hb hb.size) _ x hx
          have HXk := Lib.hid hx; clear hx
          generalize hG : (g1 && (ps.take j).all (okP t)) = gb
          have HG := Lib.hid hG
          cases gb with
          | false =>
            clear hG
            go_wp2
            go_roundw
            case rel => exact ⟨j + 1, by omega, by rw [next_all HG.out HXk.out rfl]; rfl, by go_num, hb.alloc (by omega) _, HH.out.alloc _, HE.out.alloc _⟩
            case measure => first | (simp [intOf]; done) | (simp [intOf]; omega)
          | true =>
            have h2t : 2 ≤ t := by
              have h1 := HG1.out
              simp only [Bool.and_eq_true] at hG
              rw [hG.1] at h1
              simp only [Bool.and_eq_true, decide_eq_true_eq] at h1; exact h1.1
            clear hG
            have i1 : IntKind.i64.wrap (t - 2) = t - 2 := IntWalk.i64_in _ (by omega)
            have i2 : IntKind.i64.wrap (t - 1) = t - 1 := IntWalk.i64_in _ (by omega)
            have H2t := Lib.hid h2t; clear h2t
            by_cases hin : 0 ≤ x.b ∧ x.b ≤ t - 2
            · have hd : (decide (0 ≤ x.b) && decide (x.b ≤ t - 2)) = true := by simp; exact hin
              by_cases hw : 0 ≤ x.a
              · have hdw : decide (0 ≤ x.a) = true := decide_eq_true hw
                by_cases hc : 0 ≤ x.c ∧ x.c ≤ t - 1
                · have hdc : (decide (0 ≤ x.c) && decide (x.c ≤ t - 1)) = true := by simp; exact hc
                  by_cases hdd : 0 ≤ x.d ∧ x.d ≤ t - 1
                  · have hd2 : (decide (0 ≤ x.d) && decide (x.d ≤ t - 1)) = true := by simp; exact hdd
                    go_wp2_with (go_at_call 51; refine (in56 _ _ _ true _ (by assumption)).mono ?_; rintro e w1 ⟨rfl, rfl⟩)
                    go_roundw
                    case rel => exact ⟨j + 1, by omega, by rw [next_all HG.out HXk.out (okP_r (r := (x.c != x.d)) (by rw [Bool.eq_iff_iff]; simp; omega))]; rfl, by go_num, hb.alloc (by omega) _, HH.out.alloc _, HE.out.alloc _⟩
                    case measure => first | (simp [intOf]; done) | (simp [intOf]; omega)
                  · have hd2 : (decide (0 ≤ x.d) && decide (x.d ≤ t - 1)) = false := by simp; omega
                    go_wp2_with (go_at_call 51; first | (refine (in56 _ _ _ true _ (by assumption)).mono ?_; rintro e w1 ⟨rfl, rfl⟩) | (refine (in56 _ _ _ false _ (by assumption)).mono ?_; rintro e w1 ⟨rfl, rfl⟩))
                    go_roundw
                    case rel => exact ⟨j + 1, by omega, by rw [next_all HG.out HXk.out (okP_r (r := false) (by simp; omega))]; rfl, by go_num, hb.alloc (by omega) _, HH.out.alloc _, HE.out.alloc _⟩
                    case measure => first | (simp [intOf]; done) | (simp [intOf]; omega)
                · have hdc : (decide (0 ≤ x.c) && decide (x.c ≤ t - 1)) = false := by simp; omega
                  go_wp2_with (go_at_call 51; first | (refine (in56 _ _ _ true _ (by assumption)).mono ?_; rintro e w1 ⟨rfl, rfl⟩) | (refine (in56 _ _ _ false _ (by assumption)).mono ?_; rintro e w1 ⟨rfl, rfl⟩))
                  go_roundw
                  case rel => exact ⟨j + 1, by omega, by rw [next_all HG.out HXk.out (okP_r (r := false) (by simp; omega))]; rfl, by go_num, hb.alloc (by omega) _, HH.out.alloc _, HE.out.alloc _⟩
                  case measure => first | (simp [intOf]; done) | (simp [intOf]; omega)
              · have hdw : decide (0 ≤ x.a) = false := decide_eq_false hw
                go_wp2_with (go_at_call 51; refine (in56 _ _ _ true _ (by assumption)).mono ?_; rintro e w1 ⟨rfl, rfl⟩)
                go_roundw
                case rel => exact ⟨j + 1, by omega, by rw [next_all HG.out HXk.out (okP_r (r := false) (by simp; omega))]; rfl, by go_num, hb.alloc (by omega) _, HH.out.alloc _, HE.out.alloc _⟩
                case measure => first | (simp [intOf]; done) | (simp [intOf]; omega)
            · have hd : (decide (0 ≤ x.b) && decide (x.b ≤ t - 2)) = false := by simp; omega
              go_wp2_with (go_at_call 51; refine (in56 _ _ _ false _ hd).mono ?_; rintro e w1 ⟨rfl, rfl⟩)
              go_roundw
              case rel => exact ⟨j + 1, by omega, by rw [next_all HG.out HXk.out (okP_r (r := false) (by simp; omega))]; rfl, by go_num, hb.alloc (by omega) _, HH.out.alloc _, HE.out.alloc _⟩
              case measure => first | (simp [intOf]; done) | (simp [intOf]; omega)
        · obtain rfl : j = m := by omega
          have HN : Hid (numsOk t xs ps = (g1 && ps.all (okP t))) := by
            show numsOk t xs ps = _
            unfold numsOk; rw [HG1.out]
          have HA' : Hid (ps.take j = ps) := List.take_of_length_le (by rw [HL'.out]; exact Nat.le_refl _)
          rw [HA'.out]
          clear HA'
          generalize hN : (g1 && ps.all (okP t)) = ok at *
          cases ok with
          | false =>
            have HF : Hid (2 = r) := by
              show 2 = r
              rw [HR.out, if_pos HN.out]
            clear HR HN hN
            go_wp2
            refine postM_ret (HE.out.set 0 (.int .i64 2)) rfl rfl Try.isAgg31 rfl ?_
            exact ⟨ret_int HF.out, hb.setCell (by simp) _⟩
          | true =>
            have HF : Hid (r = if endsOk t xs = false then 6 else 0) := by
              show r = _
              rw [HR.out, if_neg (by rw [HN.out]; simp)]
            have HP3 : Hid (2 ≤ t ∧ ∀ x ∈ xs, okC t x = true) := by
              obtain ⟨p1, p2, p3⟩ := numsOk_parts HN.out
              exact ⟨p1, p2⟩
            clear HR HN hN HP HG1
            go_wp2_with fail
            refine (begun57 _).mono ?_
            rintro e w1 ⟨rfl, hb1⟩
            have hlen : ((lineL 48).map vInt).length = 48 := by simp [lineL_len]
            have hinfo : (Try.prog.info? 74).map (·.size) = some 48 := by kernel_rfl
            have hz := hb.size
            have hz1 := hb1.size
            have B1 := bvia hb hb1
            have q2 : w.heap.size < w1.heap.size := by omega
            have k0 := (hb1.cell (p := ⟨w.heap.size, 0, none⟩) q).trans a0
            have k1 := (hb1.cell (p := ⟨w.heap.size, 1, none⟩) q).trans a1
            have k2 := (hb1.cell (p := ⟨w.heap.size, 2, none⟩) q).trans a2
            have HE1 := Lib.hid (HE.out.below hb1 q1)
            have q3 := HE1.out.lt
            clear HH HE a0 a1 a2 e0 e1 hb hb1
            go_wp2_with (first
              | (refine wpList_store_has rfl 74 (.tmp 8) (.tmp 98) rfl w1.heap.size ((lineL 48).map vInt) rfl rfl 74 _ (Has.new rfl) (by rw [hlen, hinfo]) (by rw [hlen]; rfl) (by simp [lineL]; intros; rfl) ?_
                 intro w2 hG2 hBut
                 have hb2 : Below w1.heap.size w1 w2 := ((Below.refl _ w1).alloc (Nat.le_refl _) _).trans (hBut.below (Nat.le_refl _) (by simp))
                 have b0 := (hb2.cell (p := ⟨w.heap.size, 0, none⟩) q2).trans k0
                 have b1 := (hb2.cell (p := ⟨w.heap.size, 1, none⟩) q2).trans k1
                 have b2 := (hb2.cell (p := ⟨w.heap.size, 2, none⟩) q2).trans k2
                 have HE2 := Lib.hid (HE1.out.below hb2 q3)
                 have HG2 := Lib.hid hG2
                 clear hBut k0 k1 k2 hG2)
              | (go_at_call 52; refine (crossings58 _ _ t A B k c j d _ rfl).mono ?_; rintro e w3 ⟨rfl, hs3, c1, c2, hb3⟩))
            have hs2 : w1.heap.size < w2.heap.size := HG2.out.lt
            have C1 : w3.cell? ⟨w2.heap.size, 1, none⟩ = some (.slice A k c) := c1.cell 1
            have C2 : w3.cell? ⟨w2.heap.size + 1, 0, none⟩ = some (.pointer (some ⟨w1.heap.size, 0, none⟩)) := c2.cell 0
            have HE3 := HE2.out.below hb3 (by omega)
            have HG3 := HG2.out.below hb3 hs2
            have B3 := bvia (bvia B1 hb2) hb3
            clear c1 c2 HE2 HG2 hb2 hb3 b0 b1 b2 HE1 B1
            have hIo : OwnFrom w3.heap.size (fun (pre : List Met) W => (∀ p ∈ pre, metOk p = true) ∧ Has W (w.heap.size + 1) 31 [.int .i64 0] ∧ Below w.heap.size w W) :=
              OwnFrom.and (fun _ _ _ _ hs _ _ => hs) (OwnFrom.and (ownFrom_has (by omega)) (ownFrom_below (Nat.le_refl _) (by omega)))
            have hIxo : OwnFrom w3.heap.size (fun (pre : List Met) W => (∃ ini last, pre = ini ++ [last] ∧ (∀ p ∈ ini, metOk p = true) ∧ metOk last = false) ∧ Has W (w.heap.size + 1) 31 [.int .i64 6] ∧ Below w.heap.size w W) :=
              OwnFrom.and (fun _ _ _ _ hs _ _ => hs) (OwnFrom.and (ownFrom_has (by omega)) (ownFrom_below (Nat.le_refl _) (by omega)))
            refine wpIn_wide.1 (range_law (n := 0) (gf := 67) (lb := #[.pointer (some ⟨w2.heap.size, 0, none⟩), .pointer (some ⟨w2.heap.size + 1, 0, none⟩)]) rfl Try.call67 encM (fun _ => rfl) _ _ (fun ys => ys = came xs (lineL 48) k) (fun ys => ∃ i, i ≤ k ∧ ys = came xs (lineL 48) i) (w.heap.size + 1) hIo hIxo ⟨by simp, HE3, B3⟩ ?iter ?rnd ?done ?stop)
            case iter =>
              intro l dd r0 r1 W hd1 hd2 hKB hMid hY
              have hks := hKB.1
              have hlW := (Array.getElem?_eq_some_iff.1 hMid.rec_).1
              have hxW : RdQ W w.heap.size A xs := HX.out.below hMid.inv.2.2 (Nat.le_refl _)
              have hGW : Has W w1.heap.size 74 ((lineL 48).map vInt) := HG3.same (hKB.2 _ (by omega) (by omega))
              have g1' := (cell_same (a := ⟨w2.heap.size, 1, none⟩) (hKB.2 w2.heap.size (by omega) (by omega))).trans C1
              have g2' := (cell_same (a := ⟨w2.heap.size + 1, 0, none⟩) (hKB.2 (w2.heap.size + 1) (by omega) (by omega))).trans C2
              refine callsIn_wide.2 ((iter64 _ _ l dd (w.heap.size + 1) r0 r1 w2.heap.size (w2.heap.size + 1) w1.heap.size k c j d w.heap.size t A B xs (lineL 48) W ?_ hlW (by omega) (by omega) (by omega) (by omega) (by omega) (by omega) (by omega) g1' g2' (by omega) (by simp [lineL_len]) hxW (by omega) (by omega) (by omega) HL.out ?_ hGW hMid hY (by omega) (by omega) (by omega)).mono ?_)
              · rintro pre V V' ⟨j1, j2, j3⟩ hKC hKO
                refine ⟨j1, j2.same (hKC.same _ j2.lt (by omega)), ?_⟩
                exact ⟨hKC.os.trans j3.os, hKC.tape.trans j3.tape, hKC.output.trans j3.output, Nat.le_trans j3.size hKC.size, fun r hr => (hKC.same r (Nat.lt_of_lt_of_le hr j3.size) (by omega)).trans (j3.block r hr)⟩
              · intro x hx
                have := HP3.out.2 x hx
                unfold okC at this; simp at this; omega
              · rintro e W' ⟨hv, h | ⟨i, hi, h⟩⟩
                · exact ⟨hv, .inl ⟨_, rfl, h⟩⟩
                · exact ⟨hv, .inr ⟨_, ⟨i, hi, rfl⟩, h⟩⟩
            case done =>
              rintro D xs' W hD rfl ⟨j1, j2, j3⟩ hDf
              have e0 := j2.cell 0
              have e1 := j2.free 0
              have HJ2 := Lib.hid j2
              clear j2
              go_wp2
              refine postM_mark (HJ2.out.set 0 (.int .i64 0)) rfl rfl Try.isAgg31 rfl ((Below.heap_setCell W _ _ D (by simp; omega)).trans hDf) ?_
              have hok : endsOk t xs = true := ends_ok HP3.out.1 h1 HP3.out.2 (by rw [HL.out]; exact j1)
              exact ⟨ret_int (by rw [HF.out, hok]; rfl), below_put (j3.setCell (by simp) _) (by omega) _⟩
            case stop =>
              rintro D xs' W hD ⟨i, hi, rfl⟩ ⟨⟨ini, last, j0, j1, j1'⟩, j2, j3⟩ hDf
              refine wpIn_wide.2 ?_
              go_wp2
              refine postM_mark j2 rfl rfl Try.isAgg31 rfl hDf ?_
              have hok : endsOk t xs = false := ends_bad HP3.out.1 h1 HP3.out.2 (by rw [HL.out]; exact hi) j0 j1 j1'
              exact ⟨ret_int (by rw [HF.out, hok]; rfl), below_put j3 (by omega) _⟩
            case rnd =>
              rintro l pre ⟨x, va, vb⟩ W o hl ⟨j1, j2, j3⟩ hWl ho
              have hll := (Array.getElem?_eq_some_iff.1 hWl).1
              have hsz := j3.size
              have hsz2 := j2.lt
              dsimp only [encM]
              gi_wp2
              refine ⟨(KeepsOthers.alloc _ _).trans (KeepsOthers.alloc _ _), ?_⟩
              have X1 : Has ((W.alloc (.cells #[.int .i64 x.a, .int .i64 x.b, .int .i64 x.c, .int .i64 x.d] 70)).alloc (.cells #[.int .i64 va, .int .i64 vb] 54)) W.heap.size 70 [.int .i64 x.a, .int .i64 x.b, .int .i64 x.c, .int .i64 x.d] := (Has.new rfl).alloc _
              have X2 : Has ((W.alloc (.cells #[.int .i64 x.a, .int .i64 x.b, .int .i64 x.c, .int .i64 x.d] 70)).alloc (.cells #[.int .i64 va, .int .i64 vb] 54)) (W.heap.size + 1) 54 [.int .i64 va, .int .i64 vb] := Has.new2 rfl
              have X3 : Below W.heap.size W ((W.alloc (.cells #[.int .i64 x.a, .int .i64 x.b, .int .i64 x.c, .int .i64 x.d] 70)).alloc (.cells #[.int .i64 va, .int .i64 vb] 54)) := by go_grown
              generalize ((W.alloc (.cells #[.int .i64 x.a, .int .i64 x.b, .int .i64 x.c, .int .i64 x.d] 70)).alloc (.cells #[.int .i64 va, .int .i64 vb] 54)) = V at *
              refine ⟨⟨X3.size, fun r hr _ => X3.block r hr⟩, fun o' ho' => ?_⟩
              have X4 := j2.below X3 hsz2
              have X5 := bvia' j3 (Nat.le_refl _) X3
              have hV := X2.lt
              have Y1 := X1.same (w' := V.putObj l o') (World.putObj_heap_other (by omega))
              have Y2 := X2.same (w' := V.putObj l o') (World.putObj_heap_other (by omega))
              have Y4 := X4.same (w' := V.putObj l o') (World.putObj_heap_other (by omega))
              have Y5 := below_put X5 (D := l) (by omega) o'
              clear X1 X2 X3 X4 X5 hWl ho ho' hV
              generalize V.putObj l o' = Y at *
              have y2 : Y.cell? ⟨W.heap.size, 2, none⟩ = some (.int .i64 x.c) := Y1.cell 2
              have y3 : Y.cell? ⟨W.heap.size, 3, none⟩ = some (.int .i64 x.d) := Y1.cell 3
              have z0 : Y.cell? ⟨W.heap.size + 1, 0, none⟩ = some (.int .i64 va) := Y2.cell 0
              have z1 : Y.cell? ⟨W.heap.size + 1, 1, none⟩ = some (.int .i64 vb) := Y2.cell 1
              have e0 : Y.cell? ⟨w.heap.size + 1, 0, none⟩ = some (.int .i64 0) := Y4.cell 0
              have e1 := Y4.free 0
              have HY4 := Lib.hid Y4; clear Y4
              clear Y1 Y2
              cases hA : (va == x.c && vb == x.d) with
              | true =>
                have E1 := eqArr2_is hA
                have hM : metOk (x, va, vb) = true := by show endOk va vb x = true; unfold endOk; rw [hA]; rfl
                have HM := Lib.hid hM; clear hM hA
                gi_wp2
                refine ⟨KeepsOthers.refl _, ⟨Nat.le_refl _, fun _ _ _ => rfl⟩, ?_, HY4.out, Y5⟩
                exact fun p hp => (List.mem_append.1 hp).elim (j1 p) (fun e => by rw [List.mem_singleton.1 e]; exact HM.out)
              | false =>
                have E1 := eqArr2_is hA
                cases hB : (va == x.d && vb == x.c) with
                | true =>
                  have E2 := eqArr2_is hB
                  have hM : metOk (x, va, vb) = true := by show endOk va vb x = true; unfold endOk; rw [hA, Bool.and_comm, hB]; rfl
                  have HM := Lib.hid hM; clear hM hA hB
                  gi_wp2
                  refine ⟨KeepsOthers.refl _, ⟨Nat.le_refl _, fun _ _ _ => rfl⟩, ?_, HY4.out, Y5⟩
                  exact fun p hp => (List.mem_append.1 hp).elim (j1 p) (fun e => by rw [List.mem_singleton.1 e]; exact HM.out)
                | false =>
                  have E2 := eqArr2_is hB
                  have hM : metOk (x, va, vb) = false := by show endOk va vb x = false; unfold endOk; rw [hA, Bool.and_comm, hB]; rfl
                  have HM := Lib.hid hM; clear hM hA hB
                  gi_wp2
                  exact ⟨KeepsOthers.setCell _ _ _, ⟨by simp [World.setCell], fun r _ _ hb' => Below.heap_setCell Y _ _ r hb'⟩, ⟨pre, _, rfl, j1, HM.out⟩, HY4.out.set 0 (.int .i64 6), Y5.setCell (by simp) _⟩
end Go.Proofs.Ytpljaoagiaijiaa
