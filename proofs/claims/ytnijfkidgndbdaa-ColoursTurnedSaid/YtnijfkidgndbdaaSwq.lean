/-
  Plain law of chapter 21: a cloth with Over and Under exchanged everywhere; rows of crossings of the call's own.
-/
import Derived.Test.YtnijfkidgndbdaaPla
namespace Go.Proofs.Ytnijfkidgndbdaa
open Go.RowKit
def swapQ (x : Q4) : Q4 := ⟨x.a, x.b, x.d, x.c⟩
theorem endOk_swap (a b : Int) (x : Q4) : endOk a b (swapQ x) = endOk a b x := by
  unfold endOk swapQ
  cases (a == x.c) <;> cases (b == x.d) <;> cases (b == x.c) <;> cases (a == x.d) <;> rfl
theorem endStep_swap (L : List Int) (x : Q4) : endStep L (swapQ x) = endStep L x := by
  unfold endStep
  rw [show (swapQ x).b = x.b from rfl]
  split
  · rw [endOk_swap]
  · rfl
theorem endsTo_swap (xs : List Q4) (L : List Int) : ∀ k, endsTo (xs.map swapQ) L k = endsTo xs L k
  | 0 => rfl
  | k + 1 => by
    show (endsTo (xs.map swapQ) L k).bind _ = (endsTo xs L k).bind _
    rw [endsTo_swap xs L k, List.getElem?_map]
    cases hx : xs[k]? with
    | none => rfl
    | some x =>
      simp only [Option.map_some]
      congr 1
      funext L'
      exact endStep_swap L' x
theorem ckE_swap (t : Int) (xs ps : List Q4) : ckE t (xs.map swapQ) ps = ckE t xs ps := by
  unfold ckE
  have h1 : numsOk t (xs.map swapQ) ps = numsOk t xs ps := by
    unfold numsOk
    rw [List.all_map]
    rfl
  have h2 : endsOk t (xs.map swapQ) = endsOk t xs := by
    unfold endsOk
    rw [endsTo_swap, List.length_map]
  rw [h1, h2, List.length_map]
theorem chkE_swap (t : Int) (xs ps : List Q4) (D : List Int) : chkE t (xs.map swapQ) ps D = chkE t xs ps D := by unfold chkE; rw [ckE_swap]
theorem overL_swap (xs : List Q4) (D : List Int) : overL (xs.map swapQ) D = underL xs D := by unfold overL underL; rw [List.map_map]; rfl
theorem underL_swap (xs : List Q4) (D : List Int) : underL (xs.map swapQ) D = overL xs D := by unfold overL underL; rw [List.map_map]; rfl
theorem seenR_swap (t : Int) (xs ps : List Q4) (D : List Int) : seenR t (xs.map swapQ) ps D = backR t xs ps D := by unfold seenR backR; rw [chkE_swap, overL_swap]
theorem backR_swap (t : Int) (xs ps : List Q4) (D : List Int) : backR t (xs.map swapQ) ps D = seenR t xs ps D := by unfold seenR backR; rw [chkE_swap, underL_swap]
theorem plainR_swap (t : Int) (xs ps : List Q4) (D : List Int) : plainR t (xs.map swapQ) ps D = plainR t xs ps D := by unfold plainR; rw [chkE_swap, overL_swap, underL_swap, List.length_map, eqTo_comm]
theorem lineTo_swap (xs : List Q4) (L : List Int) : ∀ k, lineTo (xs.map swapQ) L k = lineTo xs L k
  | 0 => rfl
  | k + 1 => by
    cases hx : xs[k]? with
    | none =>
      have h : (xs.map swapQ)[k]? = none := by rw [List.getElem?_map, hx]; rfl
      unfold lineTo
      rw [h, hx]
      exact lineTo_swap xs L k
    | some x =>
      have h : (xs.map swapQ)[k]? = some (swapQ x) := by rw [List.getElem?_map, hx]; rfl
      rw [lineTo_succ h, lineTo_succ hx, lineTo_swap xs L k]; rfl
theorem lineE_swap (t : Int) (xs ps : List Q4) (D : List Int) (nn : Int) : lineE t (xs.map swapQ) ps D nn = lineE t xs ps D nn := by unfold lineE; rw [chkE_swap, List.length_map]
theorem lineR_swap (t : Int) (xs ps : List Q4) (D : List Int) (nn : Int) : lineR t (xs.map swapQ) ps D nn = lineR t xs ps D nn := by unfold lineR; rw [lineE_swap, lineTo_swap]
/-! ### rows of crossings of the call's own -/
def qCells (x : Q4) : List Value := [.int .i64 x.a, .int .i64 x.b, .int .i64 x.c, .int .i64 x.d]
def qsCells (ws : List Q4) : List Value := ws.flatMap qCells
theorem infoQ : (Try.prog.info? 38).map (fun i => (i.zero, i.size, i.bytes)) = some (some (.agg #[.int .i64 0, .int .i64 0, .int .i64 0, .int .i64 0]), 4, 32) := by kernel_rfl
theorem news_q (w : World) (x : Q4) (t : TypeId) : ∀ j u, (qCells x)[j]? = some u → (w.alloc (.cells #[.int .i64 x.a, .int .i64 x.b, .int .i64 x.c, .int .i64 x.d] t)).cell? ⟨w.heap.size, j, none⟩ = some u := fun j u hu => by
  match j, hu with
  | 0, hu => simp [qCells] at hu; subst hu; go_simp
  | 1, hu => simp [qCells] at hu; subst hu; go_simp
  | 2, hu => simp [qCells] at hu; subst hu; go_simp
  | 3, hu => simp [qCells] at hu; subst hu; go_simp
  | j + 4, hu => simp [qCells] at hu
theorem one_q (x : Q4) : ∀ u ∈ qCells x, u.oneCell' = true := fun u hu => by
  simp only [qCells, List.mem_cons, List.mem_nil_iff, or_false] at hu
  rcases hu with rfl | rfl | rfl | rfl <;> rfl
theorem qsCells_app (ws : List Q4) (x : Q4) : qsCells (ws ++ [x]) = qsCells ws ++ qCells x := by simp [qsCells]
theorem qsCells_len (ws : List Q4) : (qsCells ws).length = ws.length * 4 := by
  induction ws with
  | nil => rfl
  | cons y ws ih => simp only [qsCells, List.flatMap_cons, List.length_append] at *; rw [ih]; simp [qCells]; omega
theorem qsCells_get {x : Q4} : ∀ {ys : List Q4} {k : Nat}, ys[k]? = some x → (qsCells ys)[k * 4]? = some (.int .i64 x.a) ∧ (qsCells ys)[k * 4 + 1]? = some (.int .i64 x.b) ∧ (qsCells ys)[k * 4 + 2]? = some (.int .i64 x.c) ∧ (qsCells ys)[k * 4 + 3]? = some (.int .i64 x.d)
  | [], k, h => by simp at h
  | y :: ys, 0, h => by simp at h; subst h; simp [qsCells, qCells]
  | y :: ys, k + 1, h => by
    have := qsCells_get (ys := ys) (k := k) (by simpa using h)
    simp only [qsCells, List.flatMap_cons, Nat.succ_mul] at *
    simp only [qCells, List.cons_append, List.nil_append] at *
    exact this
theorem own_rdQ {w : World} {base : Nat} {e : TypeId} {n c : Nat} {A : Option Addr} {ws : List Q4} (h : w.ownsRow base e 4 (.slice A n c) n (qsCells ws)) : RdQ w w.heap.size A ws := fun k x hx => by
  obtain ⟨e0, e1, e2, e3⟩ := qsCells_get hx
  obtain ⟨g, h1, _, h3, h4⟩ := own_at h e0
  obtain ⟨g', h1', _, _, h4'⟩ := own_at h e1
  rw [h1] at h1'; injection h1' with h1'; injection h1' with h1'; subst h1'
  obtain ⟨g', h1', _, _, h5'⟩ := own_at h e2
  rw [h1] at h1'; injection h1' with h1'; injection h1' with h1'; subst h1'
  obtain ⟨g', h1', _, _, h6'⟩ := own_at h e3
  rw [h1] at h1'; injection h1' with h1'; injection h1' with h1'; subst h1'
  refine ⟨g, 0, h1, h3, ?_, ?_, ?_, ?_⟩ <;> rw [Nat.zero_add] <;> assumption
end Go.Proofs.Ytnijfkidgndbdaa
