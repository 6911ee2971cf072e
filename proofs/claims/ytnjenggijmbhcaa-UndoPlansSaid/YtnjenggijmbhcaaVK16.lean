/-
  Contracts of cloth: in, begun, crossings; what the line before each crossing says of the document's ends.
-/
import Derived.Test.YtnjenggijmbhcaaVK15
import Derived.Laws.Rows
import Derived.Laws.Tables
namespace Go.Proofs.Ytnjenggijmbhcaa
open Go.RowKit
theorem lineL_set (k : Nat) (h : k < 48) : ((lineL k).map vInt ++ List.replicate (48 - k) (vInt 0)).set k (.int .i64 (k : Int)) = (lineL (k + 1)).map vInt ++ List.replicate (48 - (k + 1)) (vInt 0) := by
  have e : 48 - k = (48 - (k + 1)) + 1 := by omega
  rw [e, List.replicate_succ, List.set_append_right _ _ (by simp [lineL_len]), lineL_succ]
  simp [lineL_len]
theorem lineL_at (k : Nat) (h : k < 48) : ((lineL k).map vInt ++ List.replicate (48 - k) (vInt 0))[k]? = some (vInt 0) := by
  have e : 48 - k = (48 - (k + 1)) + 1 := by omega
  rw [e, List.replicate_succ, List.getElem?_append_right (by simp [lineL_len])]
  simp [lineL_len]
theorem Has.new2 {w : World} {o : Obj} {arr : Array Value} {t : TypeId} {cs : List Value} (h : arr = cs.toArray) : Has ((w.alloc o).alloc (.cells arr t)) (w.heap.size + 1) t cs := by
  have := Has.new (w := w.alloc o) (t := t) h
  rwa [World.size_alloc] at this
theorem Has.setRow {w : World} {g : Nat} {t : TypeId} {cs : List Value} (h : Has w g t cs) (ds : List Value) : Has (w.setRow g ds.toArray) g t ds := setRow_heap w g cs.toArray ds.toArray t _ h
theorem below_setRow {B : Nat} {a w : World} (h : Below B a w) {g : Nat} (hg : B ≤ g) (cs : Array Value) : Below B a (w.setRow g cs) :=
  ⟨h.os, h.tape, h.output, by simp; exact h.size, fun i hi => (setRow_other w g i cs (by omega)).trans (h.block i hi)⟩
theorem wpList_store_has {P : Program} {ops : Array Oper} {rest : List Oper} {o : Oper} {a : Act} {w : World} {Q : Exit → Act → World → Prop} (hgd : o.guard = none) (ty : TypeId) (x y : Operand) (ho : o.op = .store ty x y)
    (g : Nat) (cs : List Value) (hx : a.eval x = .pointer (some ⟨g, 0, none⟩)) (hy : a.eval y = .agg cs.toArray)
    (t : TypeId) (old : List Value) (hg : Has w g t old) (hi : (P.info? ty).map (·.size) = some cs.length)
    (hold : old.length = cs.length) (h1 : cs.all (·.oneCell') = true)
    (h : ∀ w2, Has w2 g t cs → But g w w2 → wpList P ops Q rest (a.put o.dst undef) w2) : wpList P ops Q (o :: rest) a w :=
  wpList_store_row hgd ty x y ho g cs.toArray hx hy t old.toArray hg (by simpa using hi) (by simpa using hold) (by simpa using h1) (h _ (hg.setRow cs) ⟨rfl, rfl, rfl, by simp, fun k _ hne => setRow_other w g k cs.toArray (fun e => hne (by rw [e]))⟩)
end Go.Proofs.Ytnjenggijmbhcaa
/-
  Plain law: the line of 48 before each crossing says the same as the document's ends over the cloth's own threads.
-/
namespace Go.Proofs.Ytnjenggijmbhcaa
open Go.RowKit
/-- a crossing came with the two threads that it names -/
def metOk (p : Met) : Bool := endOk p.2.1 p.2.2 p.1
theorem lineL_take (T : Nat) (h : T ≤ 48) : (lineL 48).take T = lineL T := by
  unfold lineL
  rw [← List.map_take, List.take_range]
  rw [Nat.min_eq_left h]
theorem lineTo_succ {xs : List Q4} {L : List Int} {k : Nat} {x : Q4} (h : xs[k]? = some x) : lineTo xs L (k + 1) = swapL (lineTo xs L k) x := by
  show (match xs[k]? with | some x => swapL (lineTo xs L k) x | none => lineTo xs L k) = _
  rw [h]
theorem endStep_line {L : List Int} {T : Nat} {x : Q4} (hT : T ≤ L.length) (hx : x.b.toNat + 1 < T) : endStep (L.take T) x = if endOk (L.getD x.b.toNat 0) (L.getD (x.b.toNat + 1) 0) x then some ((swapL L x).take T) else none := by
  have h0 : x.b.toNat < L.length := by omega
  have h1 : x.b.toNat + 1 < L.length := by omega
  have e0 : (L.take T)[x.b.toNat]? = some (L.getD x.b.toNat 0) := by
    rw [List.getElem?_take_of_lt (by omega), List.getD_eq_getElem?_getD, List.getElem?_eq_getElem h0]; rfl
  have e1 : (L.take T)[x.b.toNat + 1]? = some (L.getD (x.b.toNat + 1) 0) := by
    rw [List.getElem?_take_of_lt (by omega), List.getD_eq_getElem?_getD, List.getElem?_eq_getElem h1]; rfl
  rw [endStep_get rfl e0 e1]
  unfold swapL
  rw [List.take_set, List.take_set]
theorem met_get {xs : List Q4} {L : List Int} {k : Nat} {x : Q4} (h : xs[k]? = some x) : met xs L k = (x, (lineTo xs L k).getD x.b.toNat 0, (lineTo xs L k).getD (x.b.toNat + 1) 0) := by
  unfold met
  rw [List.getD_eq_getElem?_getD, h]; rfl
theorem ends_came (xs : List Q4) (T : Nat) (hT : T ≤ 48) (hx : ∀ x ∈ xs, 0 ≤ x.b ∧ x.b ≤ (T : Int) - 2) : ∀ k, k ≤ xs.length → (∀ p ∈ came xs (lineL 48) k, metOk p = true) → endsTo xs (lineL T) k = some ((lineTo xs (lineL 48) k).take T)
  | 0, _, _ => by show some _ = some _; rw [lineTo, lineL_take T hT]
  | k + 1, hk, h => by
    obtain ⟨x, hxk⟩ := get_of_lt (l := xs) (k := k) (by omega)
    have ih := ends_came xs T hT hx k (by omega) (fun p hp => h p (by rw [came_succ]; exact List.mem_append_left _ hp))
    have hb := hx x (mem_of_get hxk)
    have hm := h (met xs (lineL 48) k) (by rw [came_succ]; simp)
    rw [met_get hxk] at hm
    rw [endsTo_succ ih hxk, lineTo_succ hxk, endStep_line (by rw [lineTo_len, lineL_len]; exact hT) (by omega)]
    exact if_pos hm
theorem ends_ok {t : Int} {xs : List Q4} (h0 : 2 ≤ t) (ht : t ≤ 48) (hx : ∀ x ∈ xs, okC t x = true) (h : ∀ p ∈ came xs (lineL 48) xs.length, metOk p = true) : endsOk t xs = true := by
  unfold endsOk
  rw [ends_came xs t.toNat (by omega) (fun x hm => by have := hx x hm; unfold okC at this; simp at this; omega) _ (Nat.le_refl _) h]; rfl
theorem ends_bad {t : Int} {xs : List Q4} (h0 : 2 ≤ t) (ht : t ≤ 48) (hx : ∀ x ∈ xs, okC t x = true) {k : Nat} (hk : k ≤ xs.length) {ini : List Met} {last : Met} (hc : came xs (lineL 48) k = ini ++ [last]) (hi : ∀ p ∈ ini, metOk p = true) (hl : metOk last = false) : endsOk t xs = false := by
  obtain ⟨j, rfl⟩ : ∃ j, k = j + 1 := by
    cases k with
    | zero => simp [came] at hc
    | succ j => exact ⟨j, rfl⟩
  rw [came_succ] at hc
  obtain ⟨rfl, e5⟩ := List.append_inj' hc rfl
  obtain rfl : met xs (lineL 48) j = last := by simpa using e5
  obtain ⟨x, hxk⟩ := get_of_lt (l := xs) (k := j) (by omega)
  have hr : ∀ x ∈ xs, 0 ≤ x.b ∧ x.b ≤ (t.toNat : Int) - 2 := fun x hm => by have := hx x hm; unfold okC at this; simp at this; omega
  have ih := ends_came xs t.toNat (by omega) hr j (by omega) hi
  have hb := hr x (mem_of_get hxk)
  rw [met_get hxk] at hl
  have hn : endsTo xs (lineL t.toNat) (j + 1) = none := by
    rw [endsTo_succ ih hxk, endStep_line (by rw [lineTo_len, lineL_len]; omega) (by omega)]
    have hl2 : endOk ((lineTo xs (lineL 48) j).getD x.b.toNat 0) ((lineTo xs (lineL 48) j).getD (x.b.toNat + 1) 0) x = false := hl
    exact if_neg (by rw [hl2]; decide)
  unfold endsOk
  rw [endsTo_none hn _ hk]; rfl
theorem ownFrom_has {β : Type} {B g : Nat} {t : TypeId} {cs : List Value} (hg : g < B) : OwnFrom B (fun (_ : β) W => Has W g t cs) := fun _ _ _ _ hs hw hr => hs.same (hw.block g hs.lt (fun e => by have := (hr g e.symm).1; omega))
theorem postM_cell {P : Program} {fn : Func} {R : Ending → World → Prop} {tmps : Array Value} {w : World} {p : Tmp} {ty : TypeId} {g : Nat} {t : TypeId} {k : IntKind} {x : Int} (h : Has w g t [.int k x]) (hres : fn.results = #[.cell p ty])
    (hp : tmps.getD p undef = .pointer (some ⟨g, 0, none⟩)) (hu : ∀ w, (isAgg ty).run P w = .ok false w) (hR : R (.returned (.int k x)) w) : LeavesIn Fence.wide 0 P fn tmps R [] .returning w := by
  refine ⟨.int k x, ?_, hR⟩
  have hc := h.cell 0
  have hp' : tmps[p]?.getD undef = .pointer (some ⟨g, 0, none⟩) := by simpa using hp
  simp at hc
  simp [results, hres, hp', asAddr, loadVar, Sem.run_bind, hu, Result.andThen, go_sem, hc]
theorem below_put {B : Nat} {a w : World} (h : Below B a w) {D : Nat} (hD : B ≤ D) (o : Obj) : Below B a (w.putObj D o) :=
  ⟨h.os, h.tape, h.output, by simpa [World.putObj] using h.size, fun r hr => (World.putObj_heap_other (by omega)).trans (h.block r hr)⟩
theorem postM_ret {P : Program} {fn : Func} {R : Ending → World → Prop} {a : Act} {w : World} {p : Tmp} {ty : TypeId} {g : Nat} {t : TypeId} {k : IntKind} {x : Int} (h : Has w g t [.int k x]) (hres : fn.results = #[.cell p ty])
    (hp : a.tmps.getD p undef = .pointer (some ⟨g, 0, none⟩)) (hu : ∀ w, (isAgg ty).run P w = .ok false w) (hd : a.defers = []) (hR : R (.returned (.int k x)) w) : bodyPostM Fence.wide 0 P fn R .ret a w := by
  show LeavesInM Fence.wide 0 P fn a.tmps R a.defers .returning w
  rw [hd]
  exact postM_cell h hres hp hu hR
theorem postM_mark {P : Program} {fn : Func} {R : Ending → World → Prop} {a : Act} {w : World} {p : Tmp} {ty : TypeId} {g D : Nat} {t : TypeId} {k : IntKind} {x : Int} (h : Has w g t [.int k x]) (hres : fn.results = #[.cell p ty])
    (hp : a.tmps.getD p undef = .pointer (some ⟨g, 0, none⟩)) (hu : ∀ w, (isAgg ty).run P w = .ok false w) (hd : a.defers = [{ target := .collected D, args := #[] }]) (hD : w.heap[D]? = some (.deferred (some [])))
    (hR : R (.returned (.int k x)) (w.putObj D (.deferred none))) : bodyPostM Fence.wide 0 P fn R .ret a w := by
  show LeavesInM Fence.wide 0 P fn a.tmps R a.defers .returning w
  rw [hd]
  have hne : g ≠ D := by
    intro e; subst e; unfold Has at h; rw [h] at hD; cases hD
  refine ⟨by simp, .inl ⟨_, _, rfl, run_takeDeferred hD, ?_⟩⟩
  exact postM_cell (h.same (World.putObj_heap_other hne)) hres hp hu hR
end Go.Proofs.Ytnjenggijmbhcaa
