/-
  Rows of the call's own (append), read as lists; regions that draw their order whose calls make memory.
-/
import Derived.Test.YtnjenggijmbhcaaVK1
import Derived.Maps.AppendAt
import Derived.Laws.OwnMore
import Derived.Laws.Rows
import Derived.Laws.ResultCell
namespace Go.Proofs.Ytnjenggijmbhcaa
open Go.RowKit

/-! ### regions whose order is drawn: calls may make memory -/
/-- a world that has all that w has, unchanged -/
structure Ext (w : World) where
  out : World
  below : Below w.heap.size w out
instance Ext.some_ (w : World) : Nonempty (Ext w) := ⟨⟨w, Below.refl _ _⟩⟩
theorem Ext.cell {w : World} (x : Ext w) (b o : Nat) (h : b < w.heap.size) : x.out.cell? ⟨b, o, none⟩ = w.cell? ⟨b, o, none⟩ := x.below.cell (p := ⟨b, o, none⟩) h
theorem wp_region_ext {P : Program} {id : Nat} {Q : Exit → Act → World → Prop} {a : Act} {w : World} {l : List Oper} (hm : P.follows .mixedOrders = true) (hB : Region.lexB .any l.toArray = true)
    (h : wpQuiet P l.toArray (fun w' => ∃ x : Ext w, w' = x.out) (fun a' => ∀ w', (∃ x : Ext w, w' = x.out) → Q .normal a' w') l a) : (Code.region id l.toArray true).wp P Q a w :=
  wp_region_quiet (C := fun w' => ∃ x : Ext w, w' = x.out) hm hB ⟨⟨{ w with drawn := w.drawn + 1 }, ⟨rfl, rfl, rfl, Nat.le_refl _, fun _ _ => rfl⟩⟩, rfl⟩ (by simpa using h)
theorem ext_below {w w' : World} (h : ∃ x : Ext w, w' = x.out) : Below w.heap.size w w' := by
  obtain ⟨x, rfl⟩ := h; exact x.below
theorem ext_call {P : Program} {f : FuncId} {args : Array Value} {w : World} {x : Ext w} {v : Value}
    (h : Calls P f args x.out fun e w' => e = .returned v ∧ Below x.out.heap.size x.out w') : Calls P f args x.out fun e w'' => e = .returned v ∧ ∃ y : Ext w, w'' = y.out :=
  h.mono fun _ w' ⟨he, hb⟩ => ⟨he, ⟨w', bvia x.below hb⟩, rfl⟩
theorem ext_same {P : Program} {f : FuncId} {args : Array Value} {w : World} {x : Ext w} {v : Value}
    (h : Calls P f args x.out fun e w' => e = .returned v ∧ x.out = w') : Calls P f args x.out fun e w'' => e = .returned v ∧ ∃ y : Ext w, w'' = y.out :=
  h.mono fun _ _ ⟨he, hb⟩ => ⟨he, x, hb.symm⟩

/-! ### append of one element -/
theorem wpList_app {P : Program} {w : World} {ops : Array Oper} {rest : List Oper} {o : Oper} {a : Act} {Q : Exit → Act → World → Prop} (hgd : o.guard = none) (s x : Operand) (t : TypeId)
    (ho : o.op = .call { callee := .builtin .append, args := #[s, x], argTypes := #[t, t] })
    (base : Nat) (e : TypeId) (z : Value) (size bytes : Nat) (ht : P.underlying t = some (.slice e)) (hinf : (P.info? e).map (fun i => (i.zero, i.size, i.bytes)) = some (some z, size, bytes))
    (hzs : z.cells.size = size) (hsz : 0 < size) (hby : bytes ≤ 100)
    (v : Value) (n : Nat) (xs : List Value) (hs : a.eval s = v) (hown : w.ownsRow base e size v n xs)
    (b : Nat) (news : List Value) (hx : a.eval x = .slice (some ⟨b, 0, none⟩) 1 1) (hl : news.length = size) (hnews : ∀ j u, news[j]? = some u → w.cell? ⟨b, j, none⟩ = some u) (h1 : ∀ u ∈ news, u.oneCell' = true)
    (hn : n ≤ 1000000000) (hbase : base ≤ w.heap.size)
    (h : ∀ g cap w', base ≤ g → w'.ownsRow base e size (.slice (some ⟨g, 0, none⟩) (n + 1) cap) (n + 1) (xs ++ news) → w.grownBy w' v.ownBlock → (some g = v.ownBlock ∨ g = w.heap.size) →
      wpList P ops Q rest (a.put o.dst (.slice (some ⟨g, 0, none⟩) (n + 1) cap)) w') : wpList P ops Q (o :: rest) a w := by
  obtain ⟨i, hi, hz, hsize, hb⟩ := info_parts hinf
  refine wpList_plain hgd fun K hK => ?_
  have hmul : (n + 1) * bytes ≤ 140737488355328 := by
    have : (n + 1) * bytes ≤ 1000000001 * 100 := Nat.mul_le_mul (by omega) hby
    omega
  obtain ⟨v', w', hrun, h2, h3, h4, h5⟩ := run_append_own_at (P := P) w base t o.type e i z size bytes ht hi hz hsize hb hzs hsz v n xs hown ⟨b, 0, none⟩ 1 1 news (by rw [hl, Nat.one_mul]) (fun j u hu => by
    have := hnews j u hu
    have hadd : (⟨b, 0, none⟩ : Addr).add j = ⟨b, j, none⟩ := by unfold Addr.add; split <;> simp_all
    rw [hadd]; exact this) h1 (by simp only [maxLen]; omega) hmul hbase
  have hnn : v' ≠ .slice none 0 0 := fun e => by have := h4.1 e; omega
  rcases h2.2 with ⟨rfl, _⟩ | ⟨g, cap, cur, rfl, hg, _⟩
  · exact absurd rfl hnn
  · unfold Oper.wp execOp
    simp only [ho, resolve, invoke, builtin, Sem.run_bind, Sem.run_pure, Result.andThen_ok, List.map_toArray, List.map_cons, List.map_nil, hs, hx, hrun]
    refine hK _ _ (h g cap w' hg h2 h3 ?_)
    rcases h5 with h5 | h5
    · left; rw [← h5]; rfl
    · right; simpa [Value.ownBlock] using h5

theorem news_new (w : World) (x : Value) (t : TypeId) : ∀ j u, [x][j]? = some u → (w.alloc (.cells #[x] t)).cell? ⟨w.heap.size, j, none⟩ = some u := fun j u hu => by
  match j, hu with
  | 0, hu => simp at hu; subst hu; go_simp
  | j + 1, hu => simp at hu
theorem one_int (k : IntKind) (n : Int) : ∀ u ∈ [Value.int k n], u.oneCell' = true := fun u hu => by simp at hu; subst hu; rfl
/-- a row owned stays owned while only what is new changes -/
theorem own_below {w w' : World} {base : Nat} {e : TypeId} {size n : Nat} {v : Value} {xs : List Value} (h : w.ownsRow base e size v n xs) (hb : Below w.heap.size w w') : w'.ownsRow base e size v n xs :=
  h.kept (row := none) ⟨hb.os, hb.tape, hb.output, hb.size, fun i hi _ => hb.block i hi⟩ (by cases hv : v.ownBlock <;> simp)
theorem own_lit0 {w : World} {base : Nat} {e : TypeId} {size : Nat} (h : base ≤ w.heap.size) : (w.alloc (.cells #[] e)).ownsRow base e size (.slice (some ⟨w.heap.size, 0, none⟩) 0 0) 0 [] :=
  World.ownsRow_lit w #[] 0 h (by unfold maxLen; omega) (by simp)
theorem own_lit1 {w : World} {base : Nat} {e : TypeId} (x : Value) (h : base ≤ w.heap.size) : (w.alloc (.cells #[x] e)).ownsRow base e 1 (.slice (some ⟨w.heap.size, 0, none⟩) 1 1) 1 [x] :=
  World.ownsRow_lit w #[x] 1 h (by unfold maxLen; omega) rfl
/-! ### append of several elements, in a region whose order is drawn -/
theorem wp_appN {P : Program} {w : World} {o : Oper} {a : Act} {K : Act → World → Prop} {Q : Exit → Act → World → Prop} (s x : Operand) (t : TypeId)
    (ho : o.op = .call { callee := .builtin .append, args := #[s, x], argTypes := #[t, t] })
    (base : Nat) (e : TypeId) (z : Value) (size bytes : Nat) (ht : P.underlying t = some (.slice e)) (hinf : (P.info? e).map (fun i => (i.zero, i.size, i.bytes)) = some (some z, size, bytes))
    (hzs : z.cells.size = size) (hsz : 0 < size) (hby : bytes ≤ 100)
    (v : Value) (n : Nat) (xs : List Value) (hs : a.eval s = v) (hown : w.ownsRow base e size v n xs)
    (ad : Addr) (m c : Nat) (news : List Value) (hx : a.eval x = .slice (some ad) m c) (hl : news.length = m * size) (hnews : ∀ j u, news[j]? = some u → w.cell? (ad.add j) = some u) (h1 : ∀ u ∈ news, u.oneCell' = true)
    (hn : n + m ≤ 1000000000) (hbase : base ≤ w.heap.size)
    (h : ∀ v' w', w'.ownsRow base e size v' (n + m) (xs ++ news) → w.grownBy w' v.ownBlock → (v' = .slice none 0 0 ↔ v = .slice none 0 0 ∧ m = 0) → (v'.ownBlock = v.ownBlock ∨ v'.ownBlock = some w.heap.size) → K (a.put o.dst v') w') : o.wp P a w K Q := by
  obtain ⟨i, hi, hz, hsize, hb⟩ := info_parts hinf
  have hmul : (n + m) * bytes ≤ 140737488355328 := by
    have : (n + m) * bytes ≤ 1000000000 * 100 := Nat.mul_le_mul (by omega) hby
    omega
  obtain ⟨v', w', hrun, h2, h3, h4, h5⟩ := run_append_own_at (P := P) w base t o.type e i z size bytes ht hi hz hsize hb hzs hsz v n xs hown ad m c news hl hnews h1 (by simp only [maxLen]; omega) hmul hbase
  unfold Oper.wp execOp
  simp only [ho, resolve, invoke, builtin, Sem.run_bind, Sem.run_pure, Result.andThen_ok, List.map_toArray, List.map_cons, List.map_nil, hs, hx, hrun]
  exact h v' w' h2 h3 h4 h5
theorem step_appN {P : Program} {w : World} {ops : Array Oper} {o : Oper} {a : Act} {K : Act → World → Prop} {Q : Exit → Act → World → Prop} {E : Prop} (hgd : o.guard = none) (s x : Operand) (t : TypeId)
    (ho : o.op = .call { callee := .builtin .append, args := #[s, x], argTypes := #[t, t] })
    (base : Nat) (e : TypeId) (z : Value) (size bytes : Nat) (ht : P.underlying t = some (.slice e)) (hinf : (P.info? e).map (fun i => (i.zero, i.size, i.bytes)) = some (some z, size, bytes))
    (hzs : z.cells.size = size) (hsz : 0 < size) (hby : bytes ≤ 100)
    (v : Value) (n : Nat) (xs : List Value) (hs : a.eval s = v) (hown : w.ownsRow base e size v n xs)
    (ad : Addr) (m c : Nat) (news : List Value) (hx : a.eval x = .slice (some ad) m c) (hl : news.length = m * size) (hnews : ∀ j u, news[j]? = some u → w.cell? (ad.add j) = some u) (h1 : ∀ u ∈ news, u.oneCell' = true)
    (hn : n + m ≤ 1000000000) (hbase : base ≤ w.heap.size)
    (h : ∀ v' w', w'.ownsRow base e size v' (n + m) (xs ++ news) → w.grownBy w' v.ownBlock → (v' = .slice none 0 0 ↔ v = .slice none 0 0 ∧ m = 0) → (v'.ownBlock = v.ownBlock ∨ v'.ownBlock = some w.heap.size) → K (a.put o.dst v') w') :
    if Region.wanted o (yielded ops a.tmps) = true then o.wp P a w K Q else E := by
  have hw : Region.wanted o (yielded ops a.tmps) = true := by simp [Region.wanted, hgd]
  rw [if_pos hw]
  exact wp_appN s x t ho base e z size bytes ht hinf hzs hsz hby v n xs hs hown ad m c news hx hl hnews h1 hn hbase h

/-! ### a block of the call's own that is written in place -/
/-- block g holds just these cells, none frozen -/
def Has (w : World) (g : Nat) (t : TypeId) (cs : List Value) : Prop := w.heap[g]? = some (.cells cs.toArray t (0, 0))
theorem Has.lt {w : World} {g : Nat} {t : TypeId} {cs : List Value} (h : Has w g t cs) : g < w.heap.size := (Array.getElem?_eq_some_iff.1 h).1
theorem Has.cell {w : World} {g : Nat} {t : TypeId} {cs : List Value} (h : Has w g t cs) (i : Nat) : w.cell? ⟨g, i, none⟩ = cs[i]? := by
  unfold Has at h; simp [World.cell?, h]
theorem Has.free {w : World} {g : Nat} {t : TypeId} {cs : List Value} (h : Has w g t cs) (i : Nat) : w.frozen? ⟨g, i, none⟩ = false := by
  unfold Has at h; simp [World.frozen?, h]
theorem Has.new {w : World} {arr : Array Value} {t : TypeId} {cs : List Value} (h : arr = cs.toArray) : Has (w.alloc (.cells arr t)) w.heap.size t cs := by
  subst h; exact heap_alloc_new w _
theorem Has.far {w : World} {g : Nat} {t : TypeId} {cs : List Value} (h : Has w g t cs) {b : Nat} (hb : g ≠ b) (i : Nat) (u : Value) : Has (w.setCell ⟨b, i, none⟩ u) g t cs := (Below.heap_setCell w _ u g hb).trans h
theorem Has.same {w w' : World} {g : Nat} {t : TypeId} {cs : List Value} (h : Has w g t cs) (e : w'.heap[g]? = w.heap[g]?) : Has w' g t cs := e.trans h
theorem Has.below {w w' : World} {B g : Nat} {t : TypeId} {cs : List Value} (h : Has w g t cs) (hb : Below B w w') (hg : g < B) : Has w' g t cs := h.same (hb.block g hg)
theorem Has.alloc {w : World} {g : Nat} {t : TypeId} {cs : List Value} (h : Has w g t cs) (o : Obj) : Has (w.alloc o) g t cs := h.same (Below.heap_alloc w o g h.lt)
theorem Has.set {w : World} {g : Nat} {t : TypeId} {cs : List Value} (h : Has w g t cs) (i : Nat) (u : Value) : Has (w.setCell ⟨g, i, none⟩ u) g t (cs.set i u) := by
  unfold Has at h ⊢
  simp [World.setCell, Array.getElem?_modify, h]
theorem Has.drew {w : World} {g : Nat} {t : TypeId} {cs : List Value} (h : Has w g t cs) : Has w.drew g t cs := h
theorem Has.drewN {w : World} {g : Nat} {t : TypeId} {cs : List Value} (h : Has w g t cs) (n : Nat) : Has (w.drewN n) g t cs := h
/-- everything but one block is as it was -/
def But (g : Nat) (w w' : World) : Prop := w.grownBy w' (some g)
theorem But.refl (g : Nat) (w : World) : But g w w := ⟨rfl, rfl, rfl, Nat.le_refl _, fun _ _ _ => rfl⟩
theorem But.trans {g : Nat} {a b c : World} (h : But g a b) (k : But g b c) : But g a c :=
  ⟨k.os.trans h.os, k.tape.trans h.tape, k.output.trans h.output, Nat.le_trans h.size k.size, fun i hi hne => (k.block i (Nat.lt_of_lt_of_le hi h.size) hne).trans (h.block i hi hne)⟩
theorem But.of_below {g : Nat} {w w' : World} (h : Below w.heap.size w w') : But g w w' := ⟨h.os, h.tape, h.output, h.size, fun i hi _ => h.block i hi⟩
theorem But.set (g : Nat) (w : World) (i : Nat) (u : Value) : But g w (w.setCell ⟨g, i, none⟩ u) :=
  ⟨rfl, rfl, rfl, by simp [World.setCell], fun k _ hne => Below.heap_setCell w _ u k (fun e => hne (by rw [e]))⟩
theorem But.alloc {g : Nat} {w w' : World} (h : But g w w') (o : Obj) : But g w (w'.alloc o) := h.trans (But.of_below ((Below.refl _ _).alloc (Nat.le_refl _) _))
theorem But.drew {g : Nat} {w w' : World} (h : But g w w') : But g w w'.drew := ⟨h.os, h.tape, h.output, h.size, h.block⟩
theorem But.drewN {g : Nat} {w w' : World} (h : But g w w') (n : Nat) : But g w (w'.drewN n) := ⟨h.os, h.tape, h.output, h.size, h.block⟩
theorem But.below {B g : Nat} {w w' : World} (h : But g w w') (hg : B ≤ g) (hB : B ≤ w.heap.size) : Below B w w' := ⟨h.os, h.tape, h.output, h.size, fun i hi => h.block i (by omega) (by intro e; injection e; omega)⟩
theorem But.own {g : Nat} {w w' : World} (h : But g w w') {base : Nat} {e : TypeId} {size n : Nat} {v : Value} {xs : List Value} (ho : w.ownsRow base e size v n xs) (hne : v.ownBlock ≠ some g) : w'.ownsRow base e size v n xs := ho.kept h (.inr hne)
theorem But.has {g g' : Nat} {w w' : World} (h : But g w w') {t : TypeId} {cs : List Value} (hh : Has w g' t cs) (hne : g' ≠ g) : Has w' g' t cs := hh.same (h.block g' hh.lt (by intro e; injection e; omega))
theorem But.cell {g : Nat} {w w' : World} (h : But g w w') {b o : Nat} (hb : b < w.heap.size) (hne : b ≠ g) : w'.cell? ⟨b, o, none⟩ = w.cell? ⟨b, o, none⟩ := World.cell?_of_block (h.block b hb (by intro e; injection e; omega))
/-- two blocks of different types are two -/
theorem Has.ne_own {w : World} {g : Nat} {t : TypeId} {cs : List Value} (h : Has w g t cs) {base : Nat} {e : TypeId} {size n : Nat} {v : Value} {xs : List Value} (ho : w.ownsRow base e size v n xs) (hne : t ≠ e) : v.ownBlock ≠ some g := by
  rcases ho.2 with ⟨rfl, _⟩ | ⟨g', cap, cur, rfl, _, hh, _⟩
  · simp [Value.ownBlock]
  · intro he
    have : g' = g := by simpa [Value.ownBlock] using he
    subst this
    unfold Has at h
    rw [hh] at h
    injection h with h
    injection h with _ h
    exact hne h.symm

/-! ### results that lie in memory -/
theorem post_cell {P : Program} {fn : Func} {R : Ending → World → Prop} {a : Act} {w : World} {g : Nat} {t ty : TypeId} {p : Tmp} {cs : List Value} {fs : Array Field} (hh : Has w g t cs) (hres : fn.results = #[.cell p ty])
    (hp : a.tmps.getD p undef = .pointer (some ⟨g, 0, none⟩)) (hd : a.defers = []) (hu : P.underlying ty = some (.struct fs)) (hi : (P.info? ty).map (·.size) = some cs.toArray.size)
    (hR : R (.returned (.agg cs.toArray)) w) : bodyPost P fn R .ret a w :=
  bodyPost_ret (v := .agg cs.toArray) (results_cell_row hres _ _ g t cs.toArray (0, 0) (.struct fs) hp hh hu rfl hi) hd hR
theorem post_cell_tmp {P : Program} {fn : Func} {R : Ending → World → Prop} {a : Act} {w : World} {g : Nat} {t ty : TypeId} {p u : Tmp} {cs : List Value} {v : Value} {fs : Array Field} (hh : Has w g t cs) (hres : fn.results = #[.cell p ty, .tmp u])
    (hp : a.tmps.getD p undef = .pointer (some ⟨g, 0, none⟩)) (hv : a.tmps.getD u undef = v) (hd : a.defers = []) (hu : P.underlying ty = some (.struct fs)) (hi : (P.info? ty).map (·.size) = some cs.toArray.size)
    (hR : R (.returned (.tuple #[.agg cs.toArray, v])) w) : bodyPost P fn R .ret a w := by
  refine bodyPost_ret (v := .tuple #[.agg cs.toArray, v]) ?_ hd hR
  have hl := run_loadVar_row (P := P) w g t ty cs.toArray (0, 0) (.struct fs) hh hu rfl hi
  rw [results_cell_tmp hres, hp, hv]
  simp [asAddr, hl, Result.andThen]
/-! ### a row of the call's own read as a list -/
theorem own_at {w : World} {base : Nat} {e : TypeId} {size n c : Nat} {A : Option Addr} {xs : List Value} (h : w.ownsRow base e size (.slice A n c) n xs) {j : Nat} {u : Value} (hu : xs[j]? = some u) :
    ∃ g, A = some ⟨g, 0, none⟩ ∧ base ≤ g ∧ g < w.heap.size ∧ w.cell? ⟨g, j, none⟩ = some u := by
  have hj := lt_of_get hu
  rcases h.2 with ⟨hv, h0⟩ | ⟨g, cap, cur, hv, hg, hh, _⟩
  · rw [h.1, h0] at hj; omega
  · injection hv with h1 h2 h3
    subst h1
    refine ⟨g, rfl, hg, (Array.getElem?_eq_some_iff.1 hh).1, ?_⟩
    rw [h.cellAt j (by rw [← h.1]; exact hj), hu]
theorem own_rd1 {α : Type} {f : α → Value} {w : World} {base : Nat} {e : TypeId} {n c : Nat} {A : Option Addr} {xs : List α} (h : w.ownsRow base e 1 (.slice A n c) n (xs.map f)) : Rd1 f w w.heap.size A xs := fun k x hx => by
  obtain ⟨g, h1, _, h2, h3⟩ := own_at h (j := k) (u := f x) (by rw [List.getElem?_map, hx]; rfl)
  exact ⟨g, 0, h1, h2, by rw [Nat.zero_add]; exact h3⟩
def wkCells (x : Wk) : List Value := [.int .i64 x.kind, .int .i64 x.at_, .string x.word]
def wksCells (ws : List Wk) : List Value := ws.flatMap wkCells
theorem news_wk (w : World) (x : Wk) (t : TypeId) : ∀ j u, (wkCells x)[j]? = some u → (w.alloc (.cells #[.int .i64 x.kind, .int .i64 x.at_, .string x.word] t)).cell? ⟨w.heap.size, j, none⟩ = some u := fun j u hu => by
  match j, hu with
  | 0, hu => simp [wkCells] at hu; subst hu; go_simp
  | 1, hu => simp [wkCells] at hu; subst hu; go_simp
  | 2, hu => simp [wkCells] at hu; subst hu; go_simp
  | j + 3, hu => simp [wkCells] at hu
theorem one_wk (x : Wk) : ∀ u ∈ wkCells x, u.oneCell' = true := fun u hu => by
  simp only [wkCells, List.mem_cons, List.not_mem_nil, or_false] at hu
  rcases hu with rfl | rfl | rfl <;> rfl
theorem wksCells_len (ws : List Wk) : (wksCells ws).length = ws.length * 3 := by
  induction ws with
  | nil => rfl
  | cons x ws ih => simp only [wksCells, List.flatMap_cons, List.length_append] at ih ⊢; rw [ih]; simp [wkCells]; omega
theorem wksCells_get {ws : List Wk} {k : Nat} {x : Wk} (hx : ws[k]? = some x) : (wksCells ws)[k*3]? = some (.int .i64 x.kind) ∧ (wksCells ws)[k*3+1]? = some (.int .i64 x.at_) ∧ (wksCells ws)[k*3+2]? = some (.string x.word) := by
  induction ws generalizing k with
  | nil => simp at hx
  | cons y ws ih =>
    cases k with
    | zero => simp at hx; subst hx; simp [wksCells, wkCells]
    | succ k =>
      have := ih (k := k) (by simpa using hx)
      have e1 : (k + 1) * 3 = k * 3 + 3 := by omega
      simp only [wksCells, List.flatMap_cons] at this ⊢
      rw [e1]
      have hl : (wkCells y).length = 3 := rfl
      refine ⟨?_, ?_, ?_⟩ <;> (rw [List.getElem?_append_right (by rw [hl]; omega), hl])
      · rw [show k * 3 + 3 - 3 = k * 3 by omega]; exact this.1
      · rw [show k * 3 + 3 + 1 - 3 = k * 3 + 1 by omega]; exact this.2.1
      · rw [show k * 3 + 3 + 2 - 3 = k * 3 + 2 by omega]; exact this.2.2
theorem wksCells_app (ws : List Wk) (x : Wk) : wksCells (ws ++ [x]) = wksCells ws ++ wkCells x := by simp [wksCells]
theorem own_rdW {w : World} {base : Nat} {e : TypeId} {n c : Nat} {A : Option Addr} {ws : List Wk} (h : w.ownsRow base e 3 (.slice A n c) n (wksCells ws)) : RdW w w.heap.size A ws := fun k x hx => by
  obtain ⟨e1, e2, e3⟩ := wksCells_get hx
  obtain ⟨g, h1, _, h2, h3⟩ := own_at h e1
  obtain ⟨g2, h4, _, _, h5⟩ := own_at h e2
  obtain ⟨g3, h6, _, _, h7⟩ := own_at h e3
  obtain rfl : g = g2 := by rw [h1] at h4; injection h4 with h4; injection h4
  obtain rfl : g = g3 := by rw [h1] at h6; injection h6 with h6; injection h6
  exact ⟨g, 0, h1, h2, by rw [Nat.zero_add]; exact h3, by rw [Nat.zero_add]; exact h5, by rw [Nat.zero_add]; exact h7⟩

abbrev vNat (k : Nat) : Value := .int .i64 (k : Int)
theorem own_wk {w : World} {base : Nat} {e : TypeId} {n c : Nat} {A : Option Addr} {ws : List Wk} (h : w.ownsRow base e 3 (.slice A n c) n (wksCells ws)) {k : Nat} {x : Wk} (hx : ws[k]? = some x) :
    ∃ g, A = some ⟨g, 0, none⟩ ∧ base ≤ g ∧ g < w.heap.size ∧ w.cell? ⟨g, k*3, none⟩ = some (.int .i64 x.kind) ∧ w.cell? ⟨g, k*3+1, none⟩ = some (.int .i64 x.at_) ∧ w.cell? ⟨g, k*3+2, none⟩ = some (.string x.word) := by
  obtain ⟨e1, e2, e3⟩ := wksCells_get hx
  obtain ⟨g, h1, h0, h2, h3⟩ := own_at h e1
  obtain ⟨g2, h4, _, _, h5⟩ := own_at h e2
  obtain ⟨g3, h6, _, _, h7⟩ := own_at h e3
  obtain rfl : g = g2 := by rw [h1] at h4; injection h4 with h4; injection h4
  obtain rfl : g = g3 := by rw [h1] at h6; injection h6 with h6; injection h6
  exact ⟨g, h1, h0, h2, h3, h5, h7⟩
theorem wksCells_take (ws : List Wk) (t : Nat) (h : t ≤ ws.length) : (wksCells ws).take (t*3) = wksCells (ws.take t) := by
  conv => lhs; rw [← List.take_append_drop t ws]
  simp only [wksCells, List.flatMap_append]
  have : ((ws.take t).flatMap wkCells).length = t * 3 := by
    have := wksCells_len (ws.take t)
    simp only [wksCells, List.length_take] at this
    rw [this, Nat.min_eq_left h]
  rw [List.take_append_of_le_length (by omega), List.take_of_length_le (by omega)]
theorem wksCells_drop (ws : List Wk) (t : Nat) (h : t ≤ ws.length) : (wksCells ws).drop (t*3) = wksCells (ws.drop t) := by
  conv => lhs; rw [← List.take_append_drop t ws]
  simp only [wksCells, List.flatMap_append]
  have : ((ws.take t).flatMap wkCells).length = t * 3 := by
    have := wksCells_len (ws.take t)
    simp only [wksCells, List.length_take] at this
    rw [this, Nat.min_eq_left h]
  rw [List.drop_append, List.drop_of_length_le (by omega), this, Nat.sub_self, List.drop_zero, List.nil_append]
theorem one_wks (ws : List Wk) : ∀ u ∈ wksCells ws, u.oneCell' = true := fun u hu => by
  simp only [wksCells, List.mem_flatMap] at hu
  obtain ⟨x, _, hx⟩ := hu
  exact one_wk x u hx
theorem own_form {w : World} {base : Nat} {e : TypeId} {size n : Nat} {v : Value} {xs : List Value} (h : w.ownsRow base e size v n xs) : ∃ A c, v = .slice A n c := by
  rcases h.2 with ⟨rfl, rfl⟩ | ⟨g, cap, _, rfl, _⟩
  · exact ⟨none, 0, rfl⟩
  · exact ⟨_, _, rfl⟩
/-- the cells of a row from its k-th on -/
theorem own_from {w : World} {base : Nat} {e : TypeId} {size n c g : Nat} {xs : List Value} (h : w.ownsRow base e size (.slice (some ⟨g, 0, none⟩) n c) n xs) (k : Nat) : ∀ j u, (xs.drop k)[j]? = some u → w.cell? ((⟨g, k, none⟩ : Addr).add j) = some u := fun j u hu => by
  rw [List.getElem?_drop] at hu
  obtain ⟨g', h1, _, _, h2⟩ := own_at h hu
  injection h1 with h1; injection h1 with h1
  subst h1
  rw [Addr.add_lit]; exact h2
theorem own_upto {w : World} {base : Nat} {e : TypeId} {size n c g : Nat} {xs : List Value} (h : w.ownsRow base e size (.slice (some ⟨g, 0, none⟩) n c) n xs) (k : Nat) : ∀ j u, (xs.take k)[j]? = some u → w.cell? ((⟨g, 0, none⟩ : Addr).add j) = some u := fun j u hu => by
  rw [List.getElem?_take] at hu
  split at hu
  · obtain ⟨g', h1, _, _, h2⟩ := own_at h hu
    injection h1 with h1; injection h1 with h1
    subst h1
    rw [Addr.add_lit, Nat.zero_add]; exact h2
  · cases hu
/-- an ending: a slice of ints in memory -/
def RetI (xs : List Int) (w : World) (e : Ending) (w' : World) : Prop := ∃ A n c, e = .returned (.slice A n c) ∧ RdI w' w'.heap.size A xs ∧ xs.length = n ∧ n ≤ c ∧ c ≤ 9223372036854775807 ∧ Below w.heap.size w w'
/-- an ending: a slice of ints in memory, and an error -/
def RetIE (xs : List Int) (err : Int) (w : World) (e : Ending) (w' : World) : Prop := ∃ A n c, e = .returned (.tuple #[.slice A n c, .int .i64 err]) ∧ RdI w' w'.heap.size A xs ∧ xs.length = n ∧ n ≤ c ∧ c ≤ 9223372036854775807 ∧ Below w.heap.size w w'
/-- an ending: a sheet in memory, and an error -/
def RetSE (p : Int) (ws : List Wk) (err : Int) (w : World) (e : Ending) (w' : World) : Prop := ∃ A n c, e = .returned (.tuple #[.agg #[.int .i64 p, .slice A n c], .int .i64 err]) ∧ RdW w' w'.heap.size A ws ∧ ws.length = n ∧ n ≤ c ∧ c ≤ 9223372036854775807 ∧ Below w.heap.size w w'
theorem own_caps {w : World} {base : Nat} {e : TypeId} {size n c : Nat} {A : Option Addr} {xs : List Value} (h : w.ownsRow base e size (.slice A n c) n xs) : n ≤ c ∧ c ≤ 9223372036854775807 := by
  rcases h.2 with ⟨hv, h0⟩ | ⟨g, cap, cur, hv, _, _, h1, h2, _⟩
  · injection hv with _ h2 h3; omega
  · injection hv with _ _ h3; subst h3; exact ⟨h1, by simpa only [maxLen] using h2⟩
theorem infoInt : (Try.prog.info? 3).map (fun i => (i.zero, i.size, i.bytes)) = some (some (.int .i64 0), 1, 8) := by kernel_rfl
theorem infoWk : (Try.prog.info? 26).map (fun i => (i.zero, i.size, i.bytes)) = some (some (.agg #[.int .i64 0, .int .i64 0, .string ⟨#[]⟩]), 3, 32) := by kernel_rfl
end Go.Proofs.Ytnjenggijmbhcaa
/-
  Contracts of the inner functions of the undo statements: far, stitch, Example.
-/
namespace Go.Proofs.Ytnjenggijmbhcaa
open Go.RowKit
set_option maxRecDepth 100000 in
theorem stitch31 (at_ : Int) (s : ByteArray) (w : World) :
    Calls Try.prog 31 #[.int .i64 at_, .string s] w fun e w' => e = .returned (.agg #[.int .i64 1, .int .i64 at_, .string s]) ∧ Below w.heap.size w w' := by
  go_enter Try.func31, Try.ntmps31
  go_wp2
  refine post_cell (cs := [.int .i64 1, .int .i64 at_, .string s]) (Has.new rfl) Try.results31 rfl rfl Try.underlying26 (by kernel_rfl) ?_
  exact ⟨rfl, by go_grown⟩
theorem has_rdW {w : World} {g : Nat} {t : TypeId} {ws : List Wk} (h : Has w g t (wksCells ws)) : RdW w w.heap.size (some ⟨g, 0, none⟩) ws := fun k x hx => by
  obtain ⟨e1, e2, e3⟩ := wksCells_get hx
  exact ⟨g, 0, rfl, h.lt, by rw [Nat.zero_add]; exact (h.cell _).trans e1, by rw [Nat.zero_add]; exact (h.cell _).trans e2, by rw [Nat.zero_add]; exact (h.cell _).trans e3⟩
def exWs : List Wk := [⟨1, 0, ⟨#[67, 84, 67]⟩⟩, ⟨1, 2, ⟨#[67, 84]⟩⟩, ⟨1, 1, ⟨#[67, 84]⟩⟩, ⟨1, 2, ⟨#[67]⟩⟩]
set_option maxRecDepth 100000 in
theorem example30 (w : World) :
    Calls Try.prog 30 #[] w fun e w' => ∃ g, e = .returned (.agg #[.int .i64 4, .slice (some ⟨g, 0, none⟩) 4 4]) ∧ RdW w' w'.heap.size (some ⟨g, 0, none⟩) exWs ∧ Below w.heap.size w w' := by
  go_enter Try.func30, Try.ntmps30
  go_wp2_with fail
  refine (stitch31 _ _ _).mono ?_
  rintro e w1 ⟨rfl, hb1⟩
  go_wp2_with fail
  refine (stitch31 _ _ _).mono ?_
  rintro e w2 ⟨rfl, hb2⟩
  go_wp2_with fail
  refine (stitch31 _ _ _).mono ?_
  rintro e w3 ⟨rfl, hb3⟩
  go_wp2_with fail
  refine (stitch31 _ _ _).mono ?_
  rintro e w4 ⟨rfl, hb4⟩
  have hb : Below (w.heap.size + 1) (w.alloc (.cells #[.int .i64 0, .slice none 0 0] 24)) w4 := by
    simp only [World.size_alloc] at hb1
    have z1 := hb1.size
    have z2 := hb2.size
    have z3 := hb3.size
    simp only [World.size_alloc] at z1
    exact ((hb1.trans (hb2.mono z1)).trans (hb3.mono (by omega))).trans (hb4.mono (by omega))
  have h1 : Has (w.alloc (.cells #[.int .i64 0, .slice none 0 0] 24)) w.heap.size 24 [.int .i64 0, .slice none 0 0] := Has.new rfl
  have h4 := h1.below hb (by omega)
  have m0 : w4.cell? ⟨w.heap.size, 0, none⟩ = some (.int .i64 0) := h4.cell 0
  have m1 : w4.cell? ⟨w.heap.size, 1, none⟩ = some (.slice none 0 0) := h4.cell 1
  have f0 := h4.free 0
  have f1 := h4.free 1
  have hz : w.heap.size < w4.heap.size := h4.lt
  clear hb1 hb2 hb3 hb4
  go_wp2
  have K : Has (((w4.setCell ⟨w.heap.size, 0, none⟩ (.int .i64 4)).setCell ⟨w.heap.size, 1, none⟩ (.slice (some ⟨w4.heap.size, 0, none⟩) 4 4)).alloc (.cells (wksCells exWs).toArray 26)) w4.heap.size 26 (wksCells exWs) := by
    have := Has.new (w := ((w4.setCell ⟨w.heap.size, 0, none⟩ (.int .i64 4)).setCell ⟨w.heap.size, 1, none⟩ (.slice (some ⟨w4.heap.size, 0, none⟩) 4 4))) (arr := (wksCells exWs).toArray) (t := 26) (cs := wksCells exWs) rfl
    simpa using this
  refine post_cell ((((h4.set 0 _).set 1 _)).alloc _) Try.results30 rfl rfl Try.underlying24 (by kernel_rfl) ?_
  exact ⟨w4.heap.size, rfl, has_rdW K, ((((show Below w.heap.size w (w.alloc _) by go_grown).trans (hb.mono (by omega))).setCell (by simp) _).setCell (by simp) _).alloc (by simp; omega) _⟩
set_option maxRecDepth 100000 in
theorem far11 (p m : Int) (A : Option Addr) (n c : Nat) (w : World) (hn : n ≤ 9223372036854775807) :
    Calls Try.prog 11 #[.agg #[.int .i64 p, .slice A n c], .int .i64 m] w fun e w' => e = .returned (.bool (decide (m < n ∧ n ≤ 400) || decide (450 < n))) ∧ Below w.heap.size w w' := by
  have k1 : (decide (m < (n : Int)) : Bool) = decide (m < n) := rfl
  by_cases h1 : m < (n : Int)
  · by_cases h2 : (n : Int) ≤ 400
    · have h3 : ¬ (450 : Int) < n := by omega
      have e : (decide (m < n ∧ n ≤ 400) || decide (450 < n)) = true := by simp; omega
      rw [e]; clear e
      go_enter Try.func11, Try.ntmps11
      go_wp2
      all_goals (go_ret; exact ⟨rfl, by go_grown⟩)
    · by_cases h3 : (450 : Int) < n
      · have e : (decide (m < n ∧ n ≤ 400) || decide (450 < n)) = true := by simp; omega
        rw [e]; clear e
        go_enter Try.func11, Try.ntmps11
        go_wp2
        all_goals (go_ret; exact ⟨rfl, by go_grown⟩)
      · have e : (decide (m < n ∧ n ≤ 400) || decide (450 < n)) = false := by simp; omega
        rw [e]; clear e
        go_enter Try.func11, Try.ntmps11
        go_wp2
        all_goals (go_ret; exact ⟨rfl, by go_grown⟩)
  · have e : (decide (m < n ∧ n ≤ 400) || decide (450 < n)) = decide (450 < n) := by simp; omega
    rw [e]; clear e
    by_cases h3 : (450 : Int) < n
    · have e : decide (450 < n) = true := by simp; omega
      rw [e]; clear e
      go_enter Try.func11, Try.ntmps11
      go_wp2
      all_goals (go_ret; exact ⟨rfl, by go_grown⟩)
    · have e : decide (450 < n) = false := by simp; omega
      rw [e]; clear e
      go_enter Try.func11, Try.ntmps11
      go_wp2
      all_goals (go_ret; exact ⟨rfl, by go_grown⟩)
end Go.Proofs.Ytnjenggijmbhcaa
/-
  Words on clothes: a slice of crossings or pins read as a list; what the document says of a cloth's numbers.
-/
namespace Go.Proofs.Ytnjenggijmbhcaa
open Go.RowKit
/-- a crossing or a pin: its four numbers -/
structure Q4 where
  a : Int
  b : Int
  c : Int
  d : Int
deriving DecidableEq
def RdQ (w : World) (B : Nat) (A : Option Addr) (xs : List Q4) : Prop :=
  ∀ (k : Nat) (x : Q4), xs[k]? = some x → ∃ b o, A = some ⟨b, o, none⟩ ∧ b < B ∧
    w.cell? ⟨b, o + k*4, none⟩ = some (.int .i64 x.a) ∧ w.cell? ⟨b, o + k*4+1, none⟩ = some (.int .i64 x.b) ∧ w.cell? ⟨b, o + k*4+2, none⟩ = some (.int .i64 x.c) ∧ w.cell? ⟨b, o+k*4+3, none⟩ = some (.int .i64 x.d)
theorem RdQ.below {w w' : World} {B B' : Nat} {A : Option Addr} {xs : List Q4} (h : RdQ w B A xs) (hb : Below B w w') (hB : B ≤ B') : RdQ w' B' A xs := fun k x hx => by
  obtain ⟨b, o, h1, h2, h3, h4, h5, h6⟩ := h k x hx
  exact ⟨b, o, h1, Nat.lt_of_lt_of_le h2 hB, (hb.cell h2).trans h3, (hb.cell h2).trans h4, (hb.cell h2).trans h5, (hb.cell h2).trans h6⟩
theorem RdQ.up {w w' : World} {A : Option Addr} {xs : List Q4} (h : RdQ w w.heap.size A xs) (hb : Below w.heap.size w w') : RdQ w' w'.heap.size A xs := h.below hb hb.size
theorem RdQ.nil (w : World) (B : Nat) (A : Option Addr) : RdQ w B A [] := fun k x hx => by simp at hx
def okC (t : Int) (x : Q4) : Bool := decide (0 ≤ x.b) && decide (x.b ≤ t - 2) && decide (0 ≤ x.a)
def okP (t : Int) (x : Q4) : Bool := decide (0 ≤ x.b) && decide (x.b ≤ t - 2) && decide (0 ≤ x.a) && decide (0 ≤ x.c) && decide (x.c < t) && decide (0 ≤ x.d) && decide (x.d < t) && !(x.c == x.d)
def numsOk (t : Int) (xs ps : List Q4) : Bool := decide (2 ≤ t) && xs.all (okC t) && ps.all (okP t)
/-- a cloth as a value -/
abbrev vCloth (t : Int) (A : Option Addr) (n c : Nat) (B : Option Addr) (m d : Nat) : Value := .agg #[.int .i64 t, .slice A n c, .slice B m d]
theorem all_step {α : Type} {p : α → Bool} {l : List α} {k : Nat} {x : α} (hx : l[k]? = some x) : (l.take (k + 1)).all p = ((l.take k).all p && p x) := by
  rw [List.take_add_one, hx]; simp
theorem all_false {α : Type} {p : α → Bool} {l : List α} {k : Nat} {x : α} (hx : l[k]? = some x) (h : p x = false) : l.all p = false := by
  rw [List.all_eq_false]; exact ⟨x, mem_of_get hx, by rw [h]; simp⟩
end Go.Proofs.Ytnjenggijmbhcaa
/-
  Contracts of torchonref17: numbers.
-/
namespace Go.Proofs.Ytnjenggijmbhcaa
open Go.RowKit
end Go.Proofs.Ytnjenggijmbhcaa
/-
  Contracts of torchonref17: line, ends, Check.
-/
namespace Go.Proofs.Ytnjenggijmbhcaa
open Go.RowKit
def lineL (n : Nat) : List Int := (List.range n).map fun (k : Nat) => (k : Int)
def endOk (a b : Int) (x : Q4) : Bool := (a == x.c && b == x.d) || (b == x.c && a == x.d)
def endStep (L : List Int) (x : Q4) : Option (List Int) :=
  match L[x.b.toNat]?, L[x.b.toNat + 1]? with
  | some a, some b => if endOk a b x then some ((L.set x.b.toNat b).set (x.b.toNat + 1) a) else none
  | _, _ => none
def endsTo (xs : List Q4) (L : List Int) : Nat → Option (List Int)
  | 0 => some L
  | k + 1 => (endsTo xs L k).bind fun L' => match xs[k]? with
    | some x => endStep L' x
    | none => none
def endsOk (t : Int) (xs : List Q4) : Bool := (endsTo xs (lineL t.toNat) xs.length).isSome
theorem endsTo_none {xs : List Q4} {L : List Int} {k : Nat} (h : endsTo xs L k = none) : ∀ n, k ≤ n → endsTo xs L n = none := fun n hn => by
  induction n with
  | zero => obtain rfl : k = 0 := by omega
            exact h
  | succ n ih =>
    rcases Nat.lt_or_ge n k with e | e
    · obtain rfl : k = n + 1 := by omega
      exact h
    · show (endsTo xs L n).bind _ = none
      rw [ih e]; rfl
theorem endsTo_succ {xs : List Q4} {L L' : List Int} {k : Nat} {x : Q4} (h : endsTo xs L k = some L') (hx : xs[k]? = some x) : endsTo xs L (k + 1) = endStep L' x := by
  show (endsTo xs L k).bind _ = _
  rw [h, hx]; rfl
theorem endStep_get {L : List Int} {x : Q4} {i : Nat} {a b : Int} (hi : x.b.toNat = i) (ha : L[i]? = some a) (hb : L[i + 1]? = some b) : endStep L x = if endOk a b x then some ((L.set i b).set (i + 1) a) else none := by
  unfold endStep; rw [hi, ha, hb]
theorem lineL_len (n : Nat) : (lineL n).length = n := by simp [lineL]
theorem lineL_succ (n : Nat) : lineL (n + 1) = lineL n ++ [(n : Int)] := by simp [lineL, List.range_succ]
theorem own_has {w : World} {base n : Nat} {e : TypeId} {A : Option Addr} {c : Nat} {xs : List Value} (h : w.ownsRow base e 1 (.slice A n c) n xs) (hn : 0 < n) : ∃ g rest, A = some ⟨g, 0, none⟩ ∧ base ≤ g ∧ Has w g e (xs ++ rest) ∧ n ≤ c := by
  rcases h.2 with ⟨hv, h0⟩ | ⟨g, cap, cur, hv, hbg, hg, hnc, hcm, hcs, ht⟩
  · omega
  · injection hv with h1 h2 h3
    subst h3
    refine ⟨g, cur.toList.drop (n * 1), h1, hbg, ?_, hnc⟩
    unfold Has
    rw [hg, ← ht, List.take_append_drop]
theorem row_set2 (L : List Int) (rest : List Value) (b a : Int) {i : Nat} (h : i + 1 < L.length) : ((L.map vInt ++ rest).set i (.int .i64 b)).set (i + 1) (.int .i64 a) = ((L.set i b).set (i + 1) a).map vInt ++ rest := by
  rw [List.set_append_left _ _ (by simp; omega), List.set_append_left _ _ (by simp; omega), List.map_set, List.map_set]
/-- the error of a cloth -/
def ckE (t : Int) (xs ps : List Q4) : Int := if 48 < t ∨ 20000 < xs.length ∨ 6400 < ps.length then 3 else if numsOk t xs ps = false then 2 else if endsOk t xs = false then 6 else 0
theorem numsOk_parts {t : Int} {xs ps : List Q4} (h : numsOk t xs ps = true) : 2 ≤ t ∧ (∀ x ∈ xs, okC t x = true) ∧ (∀ x ∈ ps, okP t x = true) := by
  unfold numsOk at h
  simp only [Bool.and_eq_true, decide_eq_true_eq, List.all_eq_true] at h
  exact ⟨h.1.1, h.1.2, h.2⟩
end Go.Proofs.Ytnjenggijmbhcaa
/-
  A region that draws its order, by an invariant over the operations that have come up: each operation is walked once, whatever has come up before it.
-/
namespace Go.Proofs.Ytnjenggijmbhcaa
open Go.RowKit
section
variable {P : Program} {ops : Array Oper} {Q : Exit → Act → World → Prop}
/-- every operation waits for earlier ones alone -/
def earlier (ops : List Oper) : Bool := (List.range ops.length).all (fun i => match ops[i]? with | none => true | some o => o.after.toList.all (fun e => !Region.binds .any e || decide (e.on < i)))
theorem earlier_ok (h : earlier ops.toList = true) : ∀ (j : Nat) (o : Oper), ops[j]? = some o → ∀ e ∈ o.after, Region.binds .any e = true → e.on < j := fun j o ho e he hb => by
  unfold earlier at h
  have hj : j < ops.toList.length := by
    rw [Array.length_toList]
    exact (Array.getElem?_eq_some_iff.1 ho).1
  have h1 := List.all_eq_true.1 h j (List.mem_range.2 hj)
  have ho' : ops.toList[j]? = some o := by rw [Array.getElem?_toList]; exact ho
  rw [ho'] at h1
  have h2 := List.all_eq_true.1 h1 e (by rw [← Array.mem_def]; exact he)
  simpa [hb] using h2
theorem all_up (hE : earlier ops.toList = true) {l : Array Bool} (hz : l.size = ops.size) (hr : Region.ready .any ops l = []) : ∀ j, j < ops.size → l.getD j false = true := by
  intro j
  induction j using Nat.strongRecOn with
  | ind j ih =>
    intro hj
    refine Classical.byContradiction fun hn => ?_
    have ho : ops[j]? = some ops[j] := Array.getElem?_eq_getElem hj
    have : j ∈ Region.ready .any ops l := mem_ready.2 ⟨by
      cases hb : l.getD j true with
      | false => rfl
      | true =>
        exfalso
        apply hn
        have hjl : j < l.size := by omega
        rw [Array.getD_eq_getD_getElem?, Array.getElem?_eq_getElem hjl] at hb ⊢
        exact hb, ops[j], ho, fun e he hb => ih e.on (earlier_ok hE j _ ho e he hb) (by have := earlier_ok hE j _ ho e he hb; omega)⟩
    rw [hr] at this
    cases this
theorem count_set {l : Array Bool} {i : Nat} (h : l.getD i true = false) : (l.setIfInBounds i true).toList.count false + 1 = l.toList.count false := by
  have hi : i < l.size := by
    rcases Nat.lt_or_ge i l.size with h' | h'
    · exact h'
    · rw [Array.getD_eq_getD_getElem?, Array.getElem?_eq_none h'] at h; cases h
  have hv : l.toList[i]'(by rw [Array.length_toList]; exact hi) = false := by
    rw [Array.getD_eq_getD_getElem?, Array.getElem?_eq_getElem hi] at h
    simpa using h
  rw [Array.toList_setIfInBounds, List.count_set (by rw [Array.length_toList]; exact hi), hv]
  have hp : 0 < l.toList.count false := List.count_pos_iff.2 (by rw [← hv]; exact List.getElem_mem _)
  rw [if_pos (show (false == false) = true from rfl), if_neg (show ¬ (true == false) = true by decide)]
  omega
/-- the law: I holds of what has come up, the slots and the world -/
theorem wpAny_inv (I : Array Bool → Act → World → Prop) (hE : earlier ops.toList = true) (hz : ∀ l a w, I l a w → l.size = ops.size)
    (hs : ∀ l a w i, I l a w → i ∈ Region.ready .any ops l → wpOp P ops Q i (fun a' w' => I (l.setIfInBounds i true) a' w') a w)
    (he : ∀ l a w, I l a w → (∀ j, j < ops.size → l.getD j false = true) → Q .normal a w) :
    ∀ (fuel : Nat) (l : Array Bool) (a : Act) (w : World), I l a w → l.toList.count false ≤ fuel → wpAny P .any ops Q fuel l a w
  | 0, l, a, w, hI, hc => by
    have hr : Region.ready .any ops l = [] := by
      refine List.eq_nil_iff_forall_not_mem.2 fun j hj => ?_
      have := count_set (mem_ready.1 hj).1
      omega
    exact ⟨hr, he l a w hI (all_up hE (hz l a w hI) hr)⟩
  | fuel + 1, l, a, w, hI, hc => by
    refine ⟨fun hr => he l a w hI (all_up hE (hz l a w hI) hr), fun i hi => ?_⟩
    refine wpOp_mono (fun a' w' h => ?_) (hs l a w i hI hi)
    refine wpAny_inv I hE hz hs he fuel _ a' w' h ?_
    have := count_set (mem_ready.1 hi).1
    omega
theorem wp_region_inv {id : Nat} {a : Act} {w : World} (I : Array Bool → Act → World → Prop) (hm : P.follows .mixedOrders = true) (hE : earlier ops.toList = true)
    (h0 : I (Array.replicate ops.size false) a w.drew) (hz : ∀ l a w, I l a w → l.size = ops.size)
    (hs : ∀ l a w i, I l a w → i ∈ Region.ready .any ops l → wpOp P ops Q i (fun a' w' => I (l.setIfInBounds i true) a' w') a w)
    (he : ∀ l a w, I l a w → (∀ j, j < ops.size → l.getD j false = true) → Q .normal a w) : (Code.region id ops true).wp P Q a w :=
  wp_region_any hm (wpAny_inv I hE hz hs he ops.size _ a w.drew h0 (by rw [Array.toList_replicate, List.count_replicate_self]; exact Nat.le_refl _))
/-- what is ready has not come up, and all that it waits for has -/
theorem ready_of {l : Array Bool} {i : Nat} (h : i ∈ Region.ready .any ops l) : l.getD i true = false ∧ ∃ o, ops[i]? = some o ∧ ∀ e ∈ o.after, Region.binds .any e = true → l.getD e.on false = true := mem_ready.1 h
end
end Go.Proofs.Ytnjenggijmbhcaa
