/-
  The iterator cloth.crossings: each crossing with the threads in its places before it; the line follows.
-/
import Derived.Test.YtnjenggijmbhcaaVK2
import Derived.Test.YtnjenggijmbhcaaVK13
import Derived.Test.YtnjenggijmbhcaaVK14
import Derived.RegionTactic
namespace Go.Proofs.Ytnjenggijmbhcaa
open Go.RowKit
theorem roundI_any {P : Program} {l : Nat} {fn : FuncId} {tmps : Array Value} {assign body : Code} {w : World} {R : Ending → World → Prop} {n m : Nat} (h : RoundIn Fence.wide n P l fn tmps assign body w R) : RoundIn Fence.wide m P l fn tmps assign body w R :=
  ⟨h.1, fun c cs _ => h.2 c cs (fun d hd => by cases hd)⟩
theorem opI_round {P : Program} {ops : Array Oper} {Q : Exit → Act → World → Prop} {n i l : Nat} {o : Oper} {a : Act} {w : World} {K : Act → World → Prop} {fn : FuncId} {tmps : Array Value} {assign body : Code} {R : Ending → World → Prop}
    (hi : ops[i]? = some o) (hw : Region.wanted o (yielded ops a.tmps) = true) (hx : (execOp a.eval o).run P w = .ok (.round l fn tmps assign body) w)
    (hR : RoundIn Fence.wide 0 P l fn tmps assign body w R) (h : ∀ e w', R e w' → ∃ u, e = .returned u ∧ K (a.put o.dst u) w') : wpOpIn Fence.wide n P ops Q i K a w := by
  unfold wpOpIn
  simp only [hi]
  rw [if_pos hw]
  refine ⟨fun _ _ => trivial, ?_⟩
  rw [show Fence.wide.round = none from rfl, Oper.semAt_none, hx]
  refine ⟨fun h => by simp [Fence.wide] at h, RoundIn.mono (roundI_any hR) fun e w' he => ?_⟩
  obtain ⟨u, rfl, hk⟩ := h e w' he
  exact hk
def swapL (L : List Int) (x : Q4) : List Int := (L.set x.b.toNat (L.getD (x.b.toNat + 1) 0)).set (x.b.toNat + 1) (L.getD x.b.toNat 0)
/-- the line behind the first k crossings -/
def lineTo (xs : List Q4) (L : List Int) : Nat → List Int
  | 0 => L
  | k + 1 => match xs[k]? with
    | some x => swapL (lineTo xs L k) x
    | none => lineTo xs L k
abbrev Met := Q4 × Int × Int
def met (xs : List Q4) (L : List Int) (j : Nat) : Met := (xs.getD j ⟨0, 0, 0, 0⟩, (lineTo xs L j).getD (xs.getD j ⟨0, 0, 0, 0⟩).b.toNat 0, (lineTo xs L j).getD ((xs.getD j ⟨0, 0, 0, 0⟩).b.toNat + 1) 0)
def came (xs : List Q4) (L : List Int) (k : Nat) : List Met := (List.range k).map (met xs L)
def encM (p : Met) : Array Value := #[.agg #[.int .i64 p.1.a, .int .i64 p.1.b, .int .i64 p.1.c, .int .i64 p.1.d], .agg #[.int .i64 p.2.1, .int .i64 p.2.2]]
theorem cell_same {w w' : World} {a : Addr} (h : w'.heap[a.block]? = w.heap[a.block]?) : w'.cell? a = w.cell? a := by unfold World.cell?; rw [h]
theorem lineTo_len (xs : List Q4) (L : List Int) (k : Nat) : (lineTo xs L k).length = L.length := by
  induction k with
  | zero => rfl
  | succ k ih =>
    unfold lineTo
    split
    · unfold swapL; rw [List.length_set, List.length_set, ih]
    · exact ih
theorem came_succ (xs : List Q4) (L : List Int) (k : Nat) : came xs L (k + 1) = came xs L k ++ [met xs L k] := by simp [came, List.range_succ]
theorem came_len (xs : List Q4) (L : List Int) (k : Nat) : (came xs L k).length = k := by simp [came]
end Go.Proofs.Ytnjenggijmbhcaa
