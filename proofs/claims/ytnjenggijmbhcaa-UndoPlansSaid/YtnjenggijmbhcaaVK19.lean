/-
  Append of a whole slice of ints to a row of the call's own; slices.Clone.
-/
import Derived.Test.YtnjenggijmbhcaaVK17
import Derived.Laws.Cover3
namespace Go.Proofs.Ytnjenggijmbhcaa
open Go.RowKit
theorem run_app0 {P : Program} (w : World) (t ty e : TypeId) (i : TypeInfo) (ht : P.underlying t = some (.slice e)) (hi : P.info? e = some i) (B : Option Addr) (n d c : Nat) (h : n ≤ d) :
    (Builtin.append_ #[t, t] ty #[.slice B n d, .slice none 0 c]).run P w = .ok (.slice B n d) w := by
  cases B <;> simp [Builtin.append_, run_underlying ht, sizeOf, typeInfo, hi, Builtin.lenOf, Builtin.firstCells, h, storeCells]
theorem rdI_news {w : World} {B b o : Nat} {ds : List Int} (h : RdI w B (some ⟨b, o, none⟩) ds) : ∀ j u, (ds.map vInt)[j]? = some u → w.cell? ((⟨b, o, none⟩ : Addr).add j) = some u := fun j u hu => by
  rw [List.getElem?_map] at hu
  cases hx : ds[j]? with
  | none => rw [hx] at hu; cases hu
  | some x =>
    rw [hx] at hu
    injection hu with hu
    obtain ⟨b', o', e, _, c0⟩ := h j x hx
    injection e with e; injection e with e1 e2
    subst e1 e2
    rw [Addr.add_lit, ← hu]; exact c0
theorem one_ints (ds : List Int) : ∀ u ∈ ds.map vInt, u.oneCell' = true := fun u hu => by
  obtain ⟨x, _, rfl⟩ := List.mem_map.1 hu; rfl
theorem wpList_appI {w : World} {ops : Array Oper} {rest : List Oper} {o : Oper} {a : Act} {Q : Exit → Act → World → Prop} (hgd : o.guard = none) (s x : Operand)
    (ho : o.op = .call { callee := .builtin .append, args := #[s, x], argTypes := #[29, 29] })
    (base : Nat) (v : Value) (n : Nat) (xs : List Int) (hs : a.eval s = v) (hown : w.ownsRow base 3 1 v n (xs.map vInt))
    (A : Option Addr) (m c : Nat) (ds : List Int) (hx : a.eval x = .slice A m c) (hr : RdI w w.heap.size A ds) (hl : ds.length = m)
    (hn : n + m ≤ 1000000000) (hbase : base ≤ w.heap.size)
    (h : ∀ A' c' w', w'.ownsRow base 3 1 (.slice A' (n + m) c') (n + m) ((xs ++ ds).map vInt) → w.grownBy w' v.ownBlock → wpList Try.prog ops Q rest (a.put o.dst (.slice A' (n + m) c')) w') :
    wpList Try.prog ops Q (o :: rest) a w := by
  refine wpList_plain hgd fun K hK => ?_
  cases A with
  | none =>
    have hw0 : ds = [] := by
      cases ds with
      | nil => rfl
      | cons y ws => obtain ⟨b, o', e, _⟩ := hr 0 y rfl; cases e
    subst hw0
    obtain rfl : 0 = m := hl
    obtain ⟨B, d, rfl⟩ := own_form hown
    obtain ⟨i, hi, hz, hsize, hb⟩ := info_parts infoInt
    have hcc := own_caps hown
    have hrun := run_app0 (P := Try.prog) w 29 o.type 3 i Try.underlying29 hi B n d c hcc.1
    unfold Oper.wp execOp
    simp only [ho, resolve, invoke, builtin, Sem.run_bind, Sem.run_pure, Result.andThen_ok, List.map_toArray, List.map_cons, List.map_nil, hs, hx, hrun]
    exact hK _ _ (h B d w (by rw [List.append_nil]; exact hown) ⟨rfl, rfl, rfl, Nat.le_refl _, fun _ _ _ => rfl⟩)
  | some ad =>
    refine wp_appN s x 29 ho base 3 (.int .i64 0) 1 8 Try.underlying29 infoInt rfl (by omega) (by omega) v n (xs.map vInt) hs hown ad m c (ds.map vInt) hx (by rw [List.length_map, hl]; omega) ?_ (one_ints ds) hn hbase ?_
    · cases ds with
      | nil => intro j u hu; simp at hu
      | cons y ws =>
        obtain ⟨b, o', e, _⟩ := hr 0 y rfl
        injection e with e
        subst e
        exact rdI_news hr
    · intro v' w' hown' hgrow' _ _
      obtain ⟨A', c', rfl⟩ := own_form hown'
      exact hK _ _ (h A' c' w' (by rw [List.map_append]; exact hown') hgrow')
/-- an ending: a row of the call's own -/
def RetO (xs : List Int) (w : World) (e : Ending) (w' : World) : Prop := ∃ A n c, e = .returned (.slice A n c) ∧ w'.ownsRow w.heap.size 3 1 (.slice A n c) n (xs.map vInt) ∧ xs.length = n ∧ Below w.heap.size w w'
theorem run_eqlnil {P : Program} (w : World) (t e : TypeId) (a : Option Addr) (l c : Nat) (h : P.underlying t = some (.slice e)) : (binOp .eql t (.slice a l c) (.slice none 0 0)).run P w = .ok (.bool a.isNone) w := by
  unfold binOp
  simp [run_equal_slice_nil w t e a l c h]
end Go.Proofs.Ytnjenggijmbhcaa
