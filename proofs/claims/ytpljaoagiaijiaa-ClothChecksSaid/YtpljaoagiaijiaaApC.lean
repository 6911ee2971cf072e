/-
  Append of a whole slice of ints to a row of the call's own; slices.Clone.
-/
import Derived.Test.YtpljaoagiaijiaaChk
import Derived.Laws.Cover3
namespace Go.Proofs.Ytpljaoagiaijiaa
open Go.RowKit
theorem run_app0 {P : Program} (w : World) (t ty e : TypeId) (i : TypeInfo) (ht : P.underlying t = some (.slice e)) (hi : P.info? e = some i) (B : Option Addr) (n d c : Nat) (h : n ≤ d) :
    (Builtin.append_ #[t, t] ty #[.slice B n d, .slice none 0 c]).run P w = .ok (.slice B n d) w := by
  cases B <;> simp [Builtin.append_, run_underlying ht, sizeOf, typeInfo, hi, Builtin.lenOf, Builtin.firstCells, h, storeCells]
theorem rdI_news {w : World} {B b o : Nat} {ds : List Int} (h : RdI w B (some ⟨b, o, none⟩) ds) : ∀ j u, (ds.map vInt)[j]? = some u → w.cell? ((⟨b, o, none⟩ : Addr).add j) = some u := fun j u hu => by
  rw [List.getElem?_map] at hu
  cases hx : ds[j]? with
  | none => rw [hx] at hu; cases hu
  | some x =>
    rw [hx] at hu
    injection hu with hu
    obtain ⟨b', o', e, _, c0⟩ := h j x hx
    injection e with e; injection e with e1 e2
    subst e1 e2
    rw [Addr.add_lit, ← hu]; exact c0
theorem one_ints (ds : List Int) : ∀ u ∈ ds.map vInt, u.oneCell' = true := fun u hu => by
  obtain ⟨x, _, rfl⟩ := List.mem_map.1 hu; rfl
theorem wpList_appI {w : World} {ops : Array Oper} {rest : List Oper} {o : Oper} {a : Act} {Q : Exit → Act → World → Prop} (hgd : o.guard = none) (s x : Operand)
    (ho : o.op = .call { callee := .builtin .append, args := #[s, x], argTypes := #[35, 35] })
    (base : Nat) (v : Value) (n : Nat) (xs : List Int) (hs : a.eval s = v) (hown : w.ownsRow base 3 1 v n (xs.map vInt))
    (A : Option Addr) (m c : Nat) (ds : List Int) (hx : a.eval x = .slice A m c) (hr : RdI w w.heap.size A ds) (hl : ds.length = m)
    (hn : n + m ≤ 1000000000) (hbase : base ≤ w.heap.size)
    (h : ∀ A' c' w', w'.ownsRow base 3 1 (.slice A' (n + m) c') (n + m) ((xs ++ ds).map vInt) → w.grownBy w' v.ownBlock → wpList Try.prog ops Q rest (a.put o.dst (.slice A' (n + m) c')) w') :
    wpList Try.prog ops Q (o :: rest) a w := by
  refine wpList_plain hgd fun K hK => ?_
  cases A with
  | none =>
    have hw0 : ds = [] := by
      cases ds with
      | nil => rfl
      | cons y ws => obtain ⟨b, o', e, _⟩ := hr 0 y rfl; cases e
    subst hw0
    obtain rfl : 0 = m := hl
    obtain ⟨B, d, rfl⟩ := own_form hown
    obtain ⟨i, hi, hz, hsize, hb⟩ := info_parts infoInt
    have hcc := own_caps hown
    have hrun := run_app0 (P := Try.prog) w 35 o.type 3 i Try.underlying35 hi B n d c hcc.1
    unfold Oper.wp execOp
    simp only [ho, resolve, invoke, builtin, Sem.run_bind, Sem.run_pure, Result.andThen_ok, List.map_toArray, List.map_cons, List.map_nil, hs, hx, hrun]
    exact hK _ _ (h B d w (by rw [List.append_nil]; exact hown) ⟨rfl, rfl, rfl, Nat.le_refl _, fun _ _ _ => rfl⟩)
  | some ad =>
    refine wp_appN s x 35 ho base 3 (.int .i64 0) 1 8 Try.underlying35 infoInt rfl (by omega) (by omega) v n (xs.map vInt) hs hown ad m c (ds.map vInt) hx (by rw [List.length_map, hl]; omega) ?_ (one_ints ds) hn hbase ?_
    · cases ds with
      | nil => intro j u hu; simp at hu
      | cons y ws =>
        obtain ⟨b, o', e, _⟩ := hr 0 y rfl
        injection e with e
        subst e
        exact rdI_news hr
    · intro v' w' hown' hgrow' _ _
      obtain ⟨A', c', rfl⟩ := own_form hown'
      exact hK _ _ (h A' c' w' (by rw [List.map_append]; exact hown') hgrow')
/-- an ending: a row of the call's own -/
def RetO (xs : List Int) (w : World) (e : Ending) (w' : World) : Prop := ∃ A n c, e = .returned (.slice A n c) ∧ w'.ownsRow w.heap.size 3 1 (.slice A n c) n (xs.map vInt) ∧ xs.length = n ∧ Below w.heap.size w w'
theorem run_eqlnil {P : Program} (w : World) (t e : TypeId) (a : Option Addr) (l c : Nat) (h : P.underlying t = some (.slice e)) : (binOp .eql t (.slice a l c) (.slice none 0 0)).run P w = .ok (.bool a.isNone) w := by
  unfold binOp
  simp [run_equal_slice_nil w t e a l c h]
set_option maxRecDepth 100000 in
theorem clone48 (A : Option Addr) (n c : Nat) (ds : List Int) (w : World) (hr : RdI w w.heap.size A ds) (hl : ds.length = n) (hn : n ≤ 1000000000) :
    Calls Try.prog 45 #[.slice A n c] w (RetO ds w) := by
  have HR := Lib.hid hr; clear hr
  cases A with
  | none =>
    have h0 : ds = [] := by
      cases ds with
      | nil => rfl
      | cons y ws => obtain ⟨b, o', e, _⟩ := HR.out 0 y rfl; cases e
    subst h0
    have E := fun W => run_eqlnil (P := Try.prog) W 35 3 none n c Try.underlying35
    simp only [Option.isNone_none] at E
    obtain rfl : 0 = n := hl
    go_enter Try.func45, Try.ntmps45
    go_wp2
    go_ret
    exact ⟨none, 0, 0, rfl, World.ownsRow_nil _ _ _ _, rfl, Below.refl _ _⟩
  | some ad =>
    have E := fun W => run_eqlnil (P := Try.prog) W 35 3 (some ad) n c Try.underlying35
    simp only [Option.isNone_some] at E
    go_enter Try.func45, Try.ntmps45
    go_wp2_with (at_builtin; refine wpList_appI rfl (.tmp 5) (.tmp 6) rfl w.heap.size (.slice (some ⟨w.heap.size, 0, none⟩) 0 0) 0 [] rfl (own_lit0 (Nat.le_refl _)) (some ad) n c ds rfl (HR.out.up (by go_grown)) hl (by omega) (by simp) ?_)
    intro A' c' w' hown hgrow
    have hb : Below w.heap.size w w' := ((Below.refl _ w).alloc (Nat.le_refl _) (.cells #[] 3)).grown hgrow (by simp) (fun k hk => by simp [Value.ownBlock] at hk; omega)
    have HO := Lib.hid hown; clear hown
    go_wp2
    go_ret
    exact ⟨A', n, c', by simp, by simpa using HO.out, hl, hb⟩
end Go.Proofs.Ytpljaoagiaijiaa
