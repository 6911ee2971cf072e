/-
  Two results that lie in memory.
-/
import Derived.Test.YtnjenggijmbhcaaVK2
namespace Go.Proofs.Ytnjenggijmbhcaa
open Go.RowKit
section
variable {P : Program} {fn : Func} {R : Ending → World → Prop} {a : Act} {w : World}
theorem results_cell2 {p q : Tmp} {ty tz : TypeId} (h : fn.results = #[.cell p ty, .cell q tz]) (tmps : Array Value) (w : World) :
    (results fn tmps).run P w =
      ((asAddr (tmps.getD p undef)).run P w).andThen fun a w₁ => ((loadVar ty a).run P w₁).andThen fun v w₂ => ((asAddr (tmps.getD q undef)).run P w₂).andThen fun b w₃ => ((loadVar tz b).run P w₃).andThen fun u w₄ => .ok (.tuple #[v, u]) w₄ := by
  simp only [results, h]
  simp [Sem.run_bind, Result.andThen]
theorem results_cell2_tmp {p q u : Tmp} {ty tz : TypeId} (h : fn.results = #[.cell p ty, .cell q tz, .tmp u]) (tmps : Array Value) (w : World) :
    (results fn tmps).run P w =
      ((asAddr (tmps.getD p undef)).run P w).andThen fun a w₁ => ((loadVar ty a).run P w₁).andThen fun v w₂ => ((asAddr (tmps.getD q undef)).run P w₂).andThen fun b w₃ => ((loadVar tz b).run P w₃).andThen fun x w₄ => .ok (.tuple #[v, x, tmps.getD u undef]) w₄ := by
  simp only [results, h]
  simp [Sem.run_bind, Result.andThen]
theorem post_cell2 {g g' : Nat} {t t' ty tz : TypeId} {p q : Tmp} {cs ds : List Value} {fs gs : Array Field} (hh : Has w g t cs) (hh' : Has w g' t' ds) (hres : fn.results = #[.cell p ty, .cell q tz])
    (hp : a.tmps.getD p undef = .pointer (some ⟨g, 0, none⟩)) (hq : a.tmps.getD q undef = .pointer (some ⟨g', 0, none⟩)) (hd : a.defers = []) (hu : P.underlying ty = some (.struct fs)) (hi : (P.info? ty).map (·.size) = some cs.toArray.size)
    (hu' : P.underlying tz = some (.struct gs)) (hi' : (P.info? tz).map (·.size) = some ds.toArray.size)
    (hR : R (.returned (.tuple #[.agg cs.toArray, .agg ds.toArray])) w) : bodyPost P fn R .ret a w := by
  refine bodyPost_ret (v := .tuple #[.agg cs.toArray, .agg ds.toArray]) ?_ hd hR
  have hl := run_loadVar_row (P := P) w g t ty cs.toArray (0, 0) (.struct fs) hh hu rfl hi
  have hl' := run_loadVar_row (P := P) w g' t' tz ds.toArray (0, 0) (.struct gs) hh' hu' rfl hi'
  rw [results_cell2 hres, hp, hq]
  simp [asAddr, hl, hl', Result.andThen]
theorem post_cell2_tmp {g g' : Nat} {t t' ty tz : TypeId} {p q u : Tmp} {cs ds : List Value} {v : Value} {fs gs : Array Field} (hh : Has w g t cs) (hh' : Has w g' t' ds) (hres : fn.results = #[.cell p ty, .cell q tz, .tmp u])
    (hp : a.tmps.getD p undef = .pointer (some ⟨g, 0, none⟩)) (hq : a.tmps.getD q undef = .pointer (some ⟨g', 0, none⟩)) (hv : a.tmps.getD u undef = v) (hd : a.defers = []) (hu : P.underlying ty = some (.struct fs)) (hi : (P.info? ty).map (·.size) = some cs.toArray.size)
    (hu' : P.underlying tz = some (.struct gs)) (hi' : (P.info? tz).map (·.size) = some ds.toArray.size)
    (hR : R (.returned (.tuple #[.agg cs.toArray, .agg ds.toArray, v])) w) : bodyPost P fn R .ret a w := by
  refine bodyPost_ret (v := .tuple #[.agg cs.toArray, .agg ds.toArray, v]) ?_ hd hR
  have hl := run_loadVar_row (P := P) w g t ty cs.toArray (0, 0) (.struct fs) hh hu rfl hi
  have hl' := run_loadVar_row (P := P) w g' t' tz ds.toArray (0, 0) (.struct gs) hh' hu' rfl hi'
  rw [results_cell2_tmp hres, hp, hq, hv]
  simp [asAddr, hl, hl', Result.andThen]
end
end Go.Proofs.Ytnjenggijmbhcaa
