/-
  Contracts of slices.AppendSeq and slices.Collect over the loops.
-/
import Derived.Test.YtdimfbmbomgiaaaV1
import Derived.Test.YtdimfbmbomgiaaaV8
import Derived.Test.YtdimfbmbomgiaaaV9
import Derived.Deep.RegionHeld3
import Derived.BigQuiet
import Derived.Laws.MakeOwn
namespace Go.Proofs.Ytdimfbmbomgiaaa
open Go.RowKit
attribute [local go_sem] Oper.semAt_some
theorem wpListIn_app {l n0 : Nat} {P : Program} {w : World} {ops : Array Oper} {rest : List Oper} {o : Oper} {a : Act} {Q : Exit → Act → World → Prop} (hgd : o.guard = none) (s x : Operand) (t : TypeId)
    (ho : o.op = .call { callee := .builtin .append, args := #[s, x], argTypes := #[t, t] })
    (base : Nat) (e : TypeId) (z : Value) (size bytes : Nat) (ht : P.underlying t = some (.slice e)) (hinf : (P.info? e).map (fun i => (i.zero, i.size, i.bytes)) = some (some z, size, bytes))
    (hzs : z.cells.size = size) (hsz : 0 < size) (hby : bytes ≤ 100)
    (v : Value) (n : Nat) (xs : List Value) (hs : a.eval s = v) (hown : w.ownsRow base e size v n xs)
    (b : Nat) (news : List Value) (hx : a.eval x = .slice (some ⟨b, 0, none⟩) 1 1) (hl : news.length = size) (hnews : ∀ j u, news[j]? = some u → w.cell? ⟨b, j, none⟩ = some u) (h1 : ∀ u ∈ news, u.oneCell' = true)
    (hn : n ≤ 1000000000) (hbase : base ≤ w.heap.size)
    (h : ∀ g cap w', base ≤ g → w'.ownsRow base e size (.slice (some ⟨g, 0, none⟩) (n + 1) cap) (n + 1) (xs ++ news) → w.grownBy w' v.ownBlock → (some g = v.ownBlock ∨ g = w.heap.size) →
      wpListIn (Fence.wide.inRound l) n0 P ops Q rest (a.put o.dst (.slice (some ⟨g, 0, none⟩) (n + 1) cap)) w') : wpListIn (Fence.wide.inRound l) n0 P ops Q (o :: rest) a w := by
  obtain ⟨i, hi, hz, hsize, hb⟩ := info_parts hinf
  refine wpListIn_plain hgd fun K hK => ?_
  have hmul : (n + 1) * bytes ≤ 140737488355328 := by
    have : (n + 1) * bytes ≤ 1000000001 * 100 := Nat.mul_le_mul (by omega) hby
    omega
  obtain ⟨v', w', hrun, h2, h3, h4, h5⟩ := run_append_own_at (P := P) w base t o.type e i z size bytes ht hi hz hsize hb hzs hsz v n xs hown ⟨b, 0, none⟩ 1 1 news (by rw [hl, Nat.one_mul]) (fun j u hu => by
    have := hnews j u hu
    have hadd : (⟨b, 0, none⟩ : Addr).add j = ⟨b, j, none⟩ := by unfold Addr.add; split <;> simp_all
    rw [hadd]; exact this) h1 (by simp only [maxLen]; omega) hmul hbase
  have hnn : v' ≠ .slice none 0 0 := fun e => by have := h4.1 e; omega
  rcases h2.2 with ⟨rfl, _⟩ | ⟨g, cap, cur, rfl, hg, _⟩
  · exact absurd rfl hnn
  · refine ⟨fun _ _ => trivial, ?_⟩
    rw [Fence.inRound_round, Oper.semAt_some l _ _ (by rw [ho]; intro c hc; cases hc)]
    unfold execOp
    simp only [ho, resolve, invoke, builtin, Sem.run_bind, Sem.run_pure, Result.andThen_ok, List.map_toArray, List.map_cons, List.map_nil, hs, hx, hrun]
    refine hK _ _ (h g cap w' hg h2 h3 ?_)
    rcases h5 with h5 | h5
    · left; rw [← h5]; rfl
    · right; simpa [Value.ownBlock] using h5
theorem Has.not_dead {W : World} {g : Nat} {t : TypeId} {cs : List Value} (h : Has W g t cs) {row : Option Nat} (hr : ∀ r, row = some r → ∃ o : Obj, W.heap[r]? = some o ∧ o.isCells = false) : some g ≠ row := fun e => by
  obtain ⟨o, h1, h2⟩ := hr g e.symm
  unfold Has at h
  rw [h] at h1
  injection h1 with h1
  rw [← h1] at h2; cases h2
theorem Has.ne_def {W : World} {g D : Nat} {t : TypeId} {cs : List Value} (h : Has W g t cs) {o : Obj} (hD : W.heap[D]? = some o) (ho : o.isCells = false) : g ≠ D := fun e => by
  subst e
  unfold Has at h
  rw [h] at hD
  injection hD with hD
  rw [← hD] at ho; cases ho
theorem postM_mark1 {P : Program} {fn : Func} {R : Ending → World → Prop} {a : Act} {w : World} {t : Tmp} {D : Nat} {x : Value} (hres : fn.results = #[.tmp t])
    (hx : a.tmps.getD t undef = x) (hd : a.defers = [{ target := .collected D, args := #[] }]) (hD : w.heap[D]? = some (.deferred (some [])))
    (hR : R (.returned x) (w.putObj D (.deferred none))) : bodyPostM Fence.wide 0 P fn R .ret a w := by
  show LeavesInM Fence.wide 0 P fn a.tmps R a.defers .returning w
  rw [hd]
  refine ⟨by simp, .inl ⟨_, _, rfl, run_takeDeferred hD, ?_⟩⟩
  exact ⟨x, by rw [results_tmp hres, hx], hR⟩
def slV (x : Lp) : Value := .slice x.1.1 x.2.length x.1.2
/-- a list of lists in memory -/
def RdL (w : World) (B : Nat) (A : Option Addr) (ls : List (List Nat)) : Prop :=
  ∀ (k : Nat) (l : List Nat), ls[k]? = some l → ∃ b o A' c', A = some ⟨b, o, none⟩ ∧ b < B ∧ w.cell? ⟨b, o + k, none⟩ = some (.slice A' l.length c') ∧ Rd1 vNat w B A' l
theorem RdL.below {w w' : World} {B B' : Nat} {A : Option Addr} {ls : List (List Nat)} (h : RdL w B A ls) (hb : Below B w w') (hB : B ≤ B') : RdL w' B' A ls := fun k l hl => by
  obtain ⟨b, o, A', c', h1, h2, h3, h4⟩ := h k l hl
  exact ⟨b, o, A', c', h1, Nat.lt_of_lt_of_le h2 hB, (hb.cell h2).trans h3, h4.below hb hB⟩
theorem RdL.up {w w' : World} {A : Option Addr} {ls : List (List Nat)} (h : RdL w w.heap.size A ls) (hb : Below w.heap.size w w') : RdL w' w'.heap.size A ls := h.below hb hb.size
/-- what holds between two rounds of AppendSeq -/
structure ColI (w0 b0 b hi : Nat) (w : World) (pre : List Lp) (W : World) : Prop where
  row : ∃ (X : Option Addr) (c : Nat), Has W b 35 [.slice X pre.length c] ∧ W.ownsRow w0 52 1 (.slice X pre.length c) pre.length (pre.map slV) ∧ ∀ r, (Value.slice X pre.length c).ownBlock = some r → r < hi
  rows : ∀ x ∈ pre, W.ownsRow w0 3 1 (slV x) x.2.length (x.2.map vNat) ∧ ∀ r, (slV x).ownBlock = some r → r < hi
  below : Below b0 w W
  top : w0 ≤ hi
theorem colI_own {B w0 b0 b hi : Nat} {w : World} (hb : b0 ≤ B) (hw : b0 ≤ w.heap.size) : OwnFrom B (fun (pre : List Lp) W => ColI w0 b0 b hi w pre W) := fun pre W W' row hs hg hr => by
  obtain ⟨⟨X, c, h1, h2, h3⟩, h5, h4, h6⟩ := hs
  refine ⟨⟨X, c, h1.same (hg.block _ h1.lt (h1.not_dead (fun r e => (hr r e).2))), own_same h2 (fun g hgv => ?_), h3⟩, fun x hx => ⟨own_same (h5 x hx).1 (fun g hgv => ?_), (h5 x hx).2⟩, ?_, h6⟩
  · obtain ⟨y, hy⟩ := own_cells2 h2 hgv
    exact hg.block _ hy.lt (hy.not_dead (fun r e => (hr r e).2))
  · obtain ⟨y, hy⟩ := own_cells2 (h5 x hx).1 hgv
    exact hg.block _ hy.lt (hy.not_dead (fun r e => (hr r e).2))
  · refine ⟨hg.os.trans h4.os, hg.tape.trans h4.tape, hg.output.trans h4.output, Nat.le_trans h4.size hg.size, fun i hi => (hg.block i (Nat.lt_of_lt_of_le (Nat.lt_of_lt_of_le hi hw) h4.size) (fun e => ?_)).trans (h4.block i hi)⟩
    have := (hr i e.symm).1; omega
theorem Has.of_type {W : World} {g : Nat} {t t' : TypeId} {cs cs' : List Value} (h : Has W g t cs) (h' : Has W g t' cs') : t = t' := by
  unfold Has at h h'
  rw [h] at h'
  injection h' with h'
  injection h' with _ h'
theorem ColI.keep {w0 b0 b hi : Nat} {w V V' : World} {pre : List Lp} (h : ColI w0 b0 b hi w pre V) (k : IterS w0 hi V V') (h1 : b < w0) (h3 : b0 ≤ w0) (hw : b0 ≤ w.heap.size) : ColI w0 b0 b hi w pre V' := by
  obtain ⟨⟨X, c, a1, a2, a3⟩, a4, a5, a6⟩ := h
  refine ⟨⟨X, c, a1.same (k.same _ a1.lt (.inl h1)), own_same a2 (fun g hg => ?_), a3⟩, fun x hx => ⟨own_same (a4 x hx).1 (fun g hg => ?_), (a4 x hx).2⟩, ?_, a6⟩
  · obtain ⟨y, hy⟩ := own_cells2 a2 hg
    exact k.same g hy.lt (.inr ⟨a3 g hg, fun ⟨cs, hc⟩ => absurd (hy.of_type hc) (by decide)⟩)
  · obtain ⟨y, hy⟩ := own_cells2 (a4 x hx).1 hg
    exact k.same g hy.lt (.inr ⟨(a4 x hx).2 g hg, fun ⟨cs, hc⟩ => absurd (hy.of_type hc) (by decide)⟩)
  · exact ⟨k.os.trans a5.os, k.tape.trans a5.tape, k.output.trans a5.output, Nat.le_trans a5.size k.size, fun r hr => (k.same r (Nat.lt_of_lt_of_le (Nat.lt_of_lt_of_le hr hw) a5.size) (.inl (by omega))).trans (a5.block r hr)⟩
theorem infoSl : (Try.prog.info? 52).map (fun i => (i.zero, i.size, i.bytes)) = some (some (.slice none 0 0), 1, 24) := by kernel_rfl
/-- what a caller of the iterator must know of the seam -/
structure Seam (bx gs T : Nat) (nx : Nat → Nat) (ns : List Int) (W : World) : Prop where
  T48 : T ≤ 48
  perm : Cyc.Perm nx T
  get : ∀ t, t < T → ns[t]? = some (nx t : Int)
  len : ns.length = 48
  box : W.cell? ⟨bx, 0, none⟩ = some (.pointer (some ⟨gs, 0, none⟩))
  seam : Has W gs 96 (ns.map vInt ++ [vInt (T : Int)])
theorem Seam.below {bx gs T : Nat} {nx : Nat → Nat} {ns : List Int} {W W' : World} (h : Seam bx gs T nx ns W) (hb : Below W.heap.size W W') : Seam bx gs T nx ns W' :=
  ⟨h.T48, h.perm, h.get, h.len, (hb.cell (p := ⟨bx, 0, none⟩) (block_lt_of_cell h.box)).trans h.box, h.seam.below hb h.seam.lt⟩
set_option maxRecDepth 100000 in
set_option maxHeartbeats 4000000 in
theorem appendSeq51 (bx gs T : Nat) (nx : Nat → Nat) (ns : List Int) (w : World) (hS : Seam bx gs T nx ns w) :
    Calls Try.prog 51 #[.slice none 0 0, .func (.func 54) #[] #[.pointer (some ⟨bx, 0, none⟩)]] w fun e w' => ∃ A n c, e = .returned (.slice A n c) ∧ RdL w' w'.heap.size A (Cyc.loops nx T) ∧ (Cyc.loops nx T).length = n ∧ n ≤ c ∧ c ≤ 9223372036854775807 ∧ Below w.heap.size w w' := by
  have HS := Lib.hid hS
  have q0 : bx < w.heap.size := block_lt_of_cell hS.box
  have q1 : gs < w.heap.size := hS.seam.lt
  have hlen : (Cyc.loops nx T).length ≤ 48 := by
    have h1 := Cyc.loops_total hS.perm
    have h2 := hS.T48
    have h3 : ∀ (ls : List (List Nat)), (∀ l ∈ ls, 0 < l.length) → ls.length ≤ (ls.map List.length).sum := fun ls => by
      induction ls with
      | nil => intro _; simp
      | cons x ls ih =>
        intro h
        have := ih (fun l hl => h l (by simp [hl]))
        have := h x (by simp)
        simp only [List.length_cons, List.map_cons, List.sum_cons]; omega
    have := h3 _ (Cyc.loops_pos hS.perm)
    omega
  clear hS
  refine (callsIn_wide (n := 0)).1 (callsIn_of_wp_marks Try.func51 rfl trivial ?_)
  simp only [Try.ntmps51, List.size_toArray, List.length_cons, List.length_nil, Nat.reduceAdd, Nat.reduceSub, Array.replicate_succ, Array.replicate_zero, List.push_toArray, List.append_toArray, List.nil_append, List.cons_append]
  refine wpIn_wide.2 ?_
  go_wp2
  have K5 : Has (w.alloc (.cells #[.slice none 0 0] 35)) w.heap.size 35 [.slice none 0 0] := Has.new rfl
  have B1 : Below w.heap.size w (w.alloc (.cells #[.slice none 0 0] 35)) := by go_grown
  have hsz : (w.alloc (.cells #[.slice none 0 0] 35)).heap.size = w.heap.size + 1 := by simp
  obtain ⟨w1, hw1⟩ : ∃ w1, w1 = w.alloc (.cells #[.slice none 0 0] 35) := ⟨_, rfl⟩
  rw [← hw1] at K5 B1 hsz ⊢
  clear hw1
  refine wpIn_wide.1 (range_lawK (n := 0) (gf := 54) (lb := #[.pointer (some ⟨bx, 0, none⟩)]) rfl Try.call54 encL (fun _ => rfl) (fun hi pre W => ColI w1.heap.size w.heap.size w.heap.size hi w pre W) (fun ys => ys.map (·.2) = Cyc.loops nx T) (fun hi pre x W => (pre ++ [x]).map (·.2) <+: Cyc.loops nx T ∧ OkL hi x W) (KeepS w.heap.size w1.heap.size) (fun _ _ _ _ _ h k => h.trans k) (fun _ _ _ _ _ _ _ => KeepS.put _ _ _ _ _ _) (fun _ => colI_own (by omega) (Nat.le_refl _)) ⟨⟨none, 0, K5, World.ownsRow_nil _ _ _ _, fun r hr => by cases hr⟩, fun x hx => (by simp at hx), B1, Nat.le_refl _⟩ ?iter ?rnd ?done)
  case iter =>
    intro l dd r0 W hd1 hd2 hKB hMid hY
    have hks := hKB.1
    have hlW := (Array.getElem?_eq_some_iff.1 hMid.rec_).1
    have hS1 := HS.out.below B1
    have hbox := (cell_same (a := ⟨bx, 0, none⟩) (hKB.2 bx (by omega) (by omega))).trans hS1.box
    have hseam := hS1.seam.same (hKB.2 gs (by omega) (by omega))
    refine callsIn_wide.2 ((iterS (fun hi pre W => ColI w1.heap.size w.heap.size w.heap.size hi w pre W) l dd w.heap.size w1.heap.size bx gs T r0 nx ns W hS1.T48 hS1.perm hS1.get hS1.len ?_ hlW hks (by omega) (by omega) (by omega) (by omega) (by omega) hbox hseam hMid ?_).mono ?_)
    · exact fun hi pre V V' h hk _ => h.keep hk (by omega) (by omega) (Nat.le_refl _)
    · exact fun hi pre x W1 hpre hok htop hmid => hY hi pre x W1 ⟨hpre, hok⟩ htop hmid
    · rintro e W' ⟨hv, hi, xs, hx, h⟩
      exact ⟨hv, hi, xs, hx, h⟩
  case done =>
    rintro D hi xs' W hD hxs ⟨⟨X, cx, j1, j2, j3⟩, j5, j4, _⟩ hDf
    have e0 : W.cell? ⟨w.heap.size, 0, none⟩ = some (.slice X xs'.length cx) := j1.cell 0
    have HJ := Lib.hid j2
    have HJ5 := Lib.hid j5
    have HXS := Lib.hid hxs
    have hcc := own_caps j2
    have q5 := j1.lt
    have hle : w.heap.size ≤ D := by omega
    clear j1 j2 j3 j5 hxs
    go_wp2
    refine postM_mark1 rfl rfl rfl hDf ?_
    have hJ := own_same (w' := W.putObj D (.deferred none)) HJ.out (fun g hg => World.putObj_heap_other (by obtain ⟨_, hc⟩ := own_cells2 HJ.out hg; exact hc.ne_def hDf rfl))
    refine ⟨X, xs'.length, cx, rfl, fun k lk hlk => ?_, by rw [← HXS.out, List.length_map], hcc.1, hcc.2, below_put j4 hle _⟩
    rw [← HXS.out, List.getElem?_map] at hlk
    obtain ⟨x, hx⟩ := get_of_lt (l := xs') (k := k) (by
      rcases Nat.lt_or_ge k xs'.length with h | h
      · exact h
      · rw [List.getElem?_eq_none h] at hlk; cases hlk)
    rw [hx] at hlk
    injection hlk with hlk
    subst hlk
    obtain ⟨g, h1, _, h3, h4⟩ := own_at hJ (j := k) (u := slV x) (by rw [List.getElem?_map, hx]; rfl)
    obtain ⟨r1, r2⟩ := HJ5.out x (mem_of_get hx)
    have hR := own_same (w' := W.putObj D (.deferred none)) r1 (fun g hg => World.putObj_heap_other (by obtain ⟨_, hc⟩ := own_cells2 r1 hg; exact hc.ne_def hDf rfl))
    exact ⟨g, 0, x.1.1, x.1.2, h1, h3, by rw [Nat.zero_add]; exact h4, own_rd1 hR⟩
  case rnd =>
    rintro hi l pre x W o ⟨hpre, hok⟩ hl htop ⟨⟨X, cx, j1, j2, j3⟩, j5, j4, j6⟩ hWl ho
    have hpl : pre.length ≤ 48 := by
      have h1 := hpre.length_le
      rw [List.length_map, List.length_append, List.length_singleton] at h1
      omega
    have hll := (Array.getElem?_eq_some_iff.1 hWl).1
    have hsz1 := j4.size
    have q5 := j1.lt
    clear hpre
    dsimp only [encL]
    gi_wp2
    refine ⟨KeepsOthers.refl _, ⟨Nat.le_refl _, fun _ _ _ _ => rfl⟩, fun o' ho' => ?_⟩
    have Y4 := j1.same (w' := W.putObj l o') (World.putObj_heap_other (by omega))
    have Y5 := below_put j4 (D := l) (by omega) o'
    have Y6 := own_same (w' := W.putObj l o') j2 (fun g hg => World.putObj_heap_other (by obtain ⟨_, hc⟩ := own_cells2 j2 hg; exact hc.ne_def hWl ho))
    have Y7 : Hid (∀ y ∈ pre, (W.putObj l o').ownsRow w1.heap.size 3 1 (slV y) y.2.length (y.2.map vNat) ∧ ∀ r, (slV y).ownBlock = some r → r < hi) := fun y hy => ⟨own_same (j5 y hy).1 (fun g hg => World.putObj_heap_other (by obtain ⟨_, hc⟩ := own_cells2 (j5 y hy).1 hg; exact hc.ne_def hWl ho)), (j5 y hy).2⟩
    have Y8 : Hid ((W.putObj l o').ownsRow hi 3 1 (slV x) x.2.length (x.2.map vNat)) := own_same hok (fun g hg => World.putObj_heap_other (by obtain ⟨_, hc⟩ := own_cells2 hok hg; exact hc.ne_def hWl ho))
    have hYs : W.heap.size = (W.putObj l o').heap.size := by simp [World.putObj]
    have hYl : (W.putObj l o').heap[l]? = some o' := World.putObj_heap_same hll
    clear j1 j2 j4 j5 hWl hok
    generalize W.putObj l o' = Y at *
    have e0 : Y.cell? ⟨w.heap.size, 0, none⟩ = some (.slice X pre.length cx) := Y4.cell 0
    have q6 := Y4.lt
    have HY4 := Lib.hid Y4
    have HY6 := Lib.hid Y6
    have HY5 := Lib.hid Y5
    have HJ3 := Lib.hid j3
    clear Y4 Y6 Y5 j3
    have HEND : ∀ {W8 : World}, (Y.alloc (.cells #[.slice x.1.1 x.2.length x.1.2] 52)).grownBy W8 (Value.slice X pre.length cx).ownBlock → Has W8 w.heap.size 35 [.slice X pre.length cx] := fun {W8} hg => by
      have h1 : Has (Y.alloc (.cells #[.slice x.1.1 x.2.length x.1.2] 52)) w.heap.size 35 [.slice X pre.length cx] := HY4.out.alloc _
      exact h1.same (hg.block _ h1.lt (fun e => HY4.out.ne_own HY6.out (by decide) e.symm))
    have HY7 := Lib.hid (HY6.out.alloc (.cells #[.slice x.1.1 x.2.length x.1.2] 52))
    gi_wp2_with (first | ((refine wpListIn_app rfl (.tmp 8) (.tmp 10) _ rfl w1.heap.size 52 (.slice none 0 0) 1 24 Try.underlying35 infoSl rfl (by omega) (by omega) _ _ _ rfl HY7.out Y.heap.size [.slice x.1.1 x.2.length x.1.2] rfl rfl (news_new _ _ _) (fun u hu => by simp at hu; subst hu; rfl) (by omega) (by simp; omega) ?_; intro ga cap1 W8 hg1 hown1 hgrow1 hor1; have hb8 := HEND hgrow1; have e8 := hb8.cell 0; have f8 := hb8.free 0; have q8 := hb8.lt)) | fail)
    have hga := (hown1.lt ga rfl)
    have hsz8 : Y.heap.size < W8.heap.size := by have := hgrow1.size; simp at this; omega
    have hrow : ∀ r, (Value.slice X pre.length cx).ownBlock = some r → w1.heap.size ≤ r ∧ r < hi ∧ ∃ cs, Has Y r 52 cs := fun r hr => ⟨(HY6.out.lt r hr).1, HJ3.out r hr, own_cells2 HY6.out hr⟩
    have hsame : ∀ r, r < Y.heap.size → r ≠ w.heap.size → (Value.slice X pre.length cx).ownBlock ≠ some r → (W8.setCell ⟨w.heap.size, 0, none⟩ (.slice (some ⟨ga, 0, none⟩) (pre.length + 1) cap1)).heap[r]? = Y.heap[r]? := fun r hr h1 h2 => by
      refine (Below.heap_setCell W8 ⟨w.heap.size, 0, none⟩ _ r h1).trans ((hgrow1.block r (by simp; omega) (fun e => h2 e.symm)).trans (Below.heap_alloc Y _ r hr))
    have hint : ∀ (y : Lp) (B : Nat), Y.ownsRow B 3 1 (slV y) y.2.length (y.2.map vNat) → (W8.setCell ⟨w.heap.size, 0, none⟩ (.slice (some ⟨ga, 0, none⟩) (pre.length + 1) cap1)).ownsRow B 3 1 (slV y) y.2.length (y.2.map vNat) := fun y B hy => own_same hy (fun g hg => by
      obtain ⟨cs, hc⟩ := own_cells2 hy hg
      refine hsame g hc.lt (fun e => ?_) (fun e => ?_)
      · rw [e] at hc; exact absurd (HY4.out.of_type hc) (by decide)
      · obtain ⟨cs', hc'⟩ := (hrow g e).2.2
        exact absurd (hc.of_type hc') (by decide))
    refine ⟨((KeepsOthers.alloc _ _).trans (KeepsOthers.of_grownBy hgrow1 (fun j o hj ho => ?_))).trans (KeepsOthers.setCell _ _ _), ⟨?_, fun r hr _ hx => hsame r hr ?_ ?_⟩, ⟨⟨some ⟨ga, 0, none⟩, cap1, ?_, ?_, ?_⟩, ?_, ?_, ?_⟩⟩
    · obtain ⟨_, hc⟩ := own_cells2 HY7.out hj
      unfold Has at hc
      rw [hc] at ho
      injection ho with ho
      rw [← ho]; rfl
    · simp; omega
    · rcases hx with hx | hx | ⟨cs, hx⟩
      · exact hx.2
      · omega
      · exact fun e => by rw [e] at hx; exact absurd (HY4.out.of_type hx) (by decide)
    · intro e
      obtain ⟨k1, k2, cs', k3⟩ := hrow r e
      rcases hx with hx | hx | ⟨cs, hx⟩
      · omega
      · omega
      · exact absurd (k3.of_type hx) (by decide)
    · rw [List.length_append]; exact hb8.set 0 _
    · rw [List.length_append, List.map_append]
      exact own_same hown1 (fun g hg => Below.heap_setCell W8 ⟨w.heap.size, 0, none⟩ _ g (by obtain ⟨_, hc⟩ := own_cells2 hown1 hg; show g ≠ w.heap.size; intro e; subst e; exact absurd (hb8.of_type hc) (by decide)))
    · intro r hr
      have hr' : (Value.slice (some ⟨ga, 0, none⟩) (pre.length + 1) cap1).ownBlock = some r := by rw [← hr, List.length_append]; rfl
      have := (hown1.lt r hr').2
      simpa using this
    · intro y hy
      have hse : (W8.setCell ⟨w.heap.size, 0, none⟩ (.slice (some ⟨ga, 0, none⟩) (pre.length + 1) cap1)).heap.size = W8.heap.size := by simp [World.setCell]
      rcases List.mem_append.1 hy with hy | hy
      · exact ⟨hint y _ (Y7.out y hy).1, fun r hr => by rw [hse]; have := (Y7.out y hy).2 r hr; omega⟩
      · obtain rfl : y = x := by simpa using hy
        refine ⟨hint y _ (own_mono Y8.out j6), fun r hr => ?_⟩
        rw [hse]
        have := (Y8.out.lt r hr).2
        omega
    · exact ((HY5.out.alloc (by omega) _).grown hgrow1 (by simp; omega) (fun r hr => by have := (HY6.out.lt r hr).1; omega)).setCell (Nat.le_refl _) _
    · simp; omega
set_option maxRecDepth 100000 in
theorem collect33 (bx gs T : Nat) (nx : Nat → Nat) (ns : List Int) (w : World) (hS : Seam bx gs T nx ns w) :
    Calls Try.prog 33 #[.func (.func 54) #[] #[.pointer (some ⟨bx, 0, none⟩)]] w fun e w' => ∃ A n c, e = .returned (.slice A n c) ∧ RdL w' w'.heap.size A (Cyc.loops nx T) ∧ (Cyc.loops nx T).length = n ∧ n ≤ c ∧ c ≤ 9223372036854775807 ∧ Below w.heap.size w w' := by
  have C := Lib.hid (appendSeq51 bx gs T nx ns w hS)
  clear hS
  go_enter Try.func33, Try.ntmps33
  go_wp2_with fail
  refine C.out.mono ?_
  rintro e w1 ⟨A, n, c, rfl, h1, h2, h3, h4, h5⟩
  go_wp2
  go_ret
  exact ⟨A, n, c, rfl, h1, h2, h3, h4, h5⟩
end Go.Proofs.Ytdimfbmbomgiaaa
/-
  Contracts of (*seams.seam).loops and seams.Loops.
-/
namespace Go.Proofs.Ytdimfbmbomgiaaa
open Go.RowKit
set_option maxRecDepth 100000 in
theorem loops36 (gs : Nat) (w : World) : Calls Try.prog 36 #[.pointer (some ⟨gs, 0, none⟩)] w fun e w' => e = .returned (.func (.func 54) #[] #[.pointer (some ⟨w.heap.size, 0, none⟩)]) ∧ Has w' w.heap.size 69 [.pointer (some ⟨gs, 0, none⟩)] ∧ Below w.heap.size w w' := by
  go_enter Try.func36, Try.ntmps36
  go_wp2
  go_ret
  exact ⟨rfl, Has.new rfl, by go_grown⟩
/-- an ending: a list of lists in memory, and an error -/
def RetLE (ls : List (List Nat)) (err : Int) (w : World) (e : Ending) (w' : World) : Prop := ∃ A n c, e = .returned (.tuple #[.slice A n c, .int .i64 err]) ∧ RdL w' w'.heap.size A ls ∧ ls.length = n ∧ n ≤ c ∧ c ≤ 9223372036854775807 ∧ Below w.heap.size w w'
/-- the loops of a sheet and a shift: none where there is an error -/
def loopsR (p : Int) (ws : List Wk) (h : Int) : List (List Nat) := if seE p ws h = 0 then loopsS ws (2 * p).toNat h.toNat else []
theorem seE_zero {p h : Int} {ws : List Wk} (e : seE p ws h = 0) : schk p ws = 0 ∧ 0 ≤ h ∧ h < p := by
  unfold seE at e
  split at e
  · rename_i h1; exact absurd e h1
  · rename_i h1
    split at e
    · cases e
    · rename_i h2
      refine ⟨?_, by omega, by omega⟩
      exact Classical.byContradiction h1
theorem Seam.of {bx gs : Nat} {p : Int} {ws : List Wk} {h : Nat} {W : World} (hok : SOk p ws) (hb : Has W bx 69 [.pointer (some ⟨gs, 0, none⟩)]) (hs : Has W gs 96 ((nxL ws (2 * p).toNat h 48).map vInt ++ [vInt (((2 * p).toNat : Nat) : Int)])) : Seam bx gs (2 * p).toNat (nxS ws (2 * p).toNat h) (nxL ws (2 * p).toNat h 48) W := by
  have h48 : (2 * p).toNat ≤ 48 := by have := hok.le; omega
  exact ⟨h48, nxS_perm hok h, fun t ht => nxL_get ws (by omega) ht, nxL_len _ _ _ _, hb.cell 0, hs⟩
set_option maxRecDepth 100000 in
set_option maxHeartbeats 2000000 in
theorem loops16 (p : Int) (A : Option Addr) (n c : Nat) (h : Int) (ws : List Wk) (w : World) (hn : n ≤ 9223372036854775807) (hw : RdW w w.heap.size A ws) (hl : ws.length = n)
    (hs : ∀ x ∈ ws, x.word.size ≤ 9223372036854775807) :
    Calls Try.prog 16 #[.agg #[.int .i64 p, .slice A n c], .int .i64 h] w (RetLE (loopsR p ws h) (seE p ws h) w) := by
  have CA := Lib.hid (fun (W : World) (hb : Below w.heap.size w W) => asked31 p A n c h ws W hn (hw.up hb) hl hs)
  have K0 : Has (w.alloc (.cells #[.int .i64 p, .slice A n c] 24)) w.heap.size 24 [.int .i64 p, .slice A n c] := Has.new rfl
  by_cases hE : seE p ws h = 0
  case neg =>
    have e : loopsR p ws h = [] := by unfold loopsR; rw [if_neg hE]
    rw [e]
    have hd : (seE p ws h != 0) = true := by simpa using hE
    generalize seE p ws h = q at *
    clear hE e hw hl hs
    go_enter Try.func16, Try.ntmps16
    go_wp2_with fail
    refine (CA.out _ (by go_grown)).mono ?_
    rintro e w1 ⟨rfl, hb1⟩
    go_wp2
    go_ret2
    exact ⟨none, 0, 0, rfl, fun k l hk => by simp at hk, rfl, Nat.le_refl _, by omega, bvia (by go_grown) hb1⟩
  have hR : loopsR p ws h = loopsS ws (2 * p).toNat h.toNat := by unfold loopsR; rw [if_pos hE]
  obtain ⟨g1, g2, g3⟩ := seE_zero hE
  obtain ⟨H, rfl⟩ := Int.eq_ofNat_of_zero_le g2
  rw [show ((H : Nat) : Int).toNat = H by simp] at hR
  rw [hR]
  rw [hE] at CA ⊢
  have HOK := Lib.hid (schk_zero g1)
  have CE := Lib.hid (fun (W : World) (hb : Below w.heap.size w W) => ends35 p A n c ws W hn (hw.up hb) hl g1)
  have CS := Lib.hid (fun (A' : Option Addr) (c' : Nat) (W : World) (hr : RdI W W.heap.size A' (endL ws (2 * p).toNat)) => sewn34 p A A' n c c' H ws W hr g1 g3)
  have CC := Lib.hid (fun (bx gs : Nat) (W : World) (hS : Seam bx gs (2 * p).toNat (nxS ws (2 * p).toNat H) (nxL ws (2 * p).toNat H 48) W) => collect33 bx gs _ _ _ W hS)
  clear hE hR g1 g2 g3 hw hl hs
  go_enter Try.func16, Try.ntmps16
  go_wp2_with fail
  refine (CA.out _ (by go_grown)).mono ?_
  rintro e w1 ⟨rfl, hb1⟩
  have HB := Lib.hid (bvia (show Below w.heap.size w _ by go_grown) hb1)
  have HK := Lib.hid (K0.below hb1 K0.lt)
  have n0 : w1.cell? ⟨w.heap.size, 0, none⟩ = some (.int .i64 p) := HK.out.cell 0
  have n1 : w1.cell? ⟨w.heap.size, 1, none⟩ = some (.slice A n c) := HK.out.cell 1
  have q0 := HK.out.lt
  have HDN := Lib.hid HK.out.drew
  clear K0 hb1
  go_wp2
  go_region_held3 (fun W => W.cell? ⟨w.heap.size, 0, none⟩ = some (.int .i64 p) ∧ W.cell? ⟨w.heap.size, 1, none⟩ = some (.slice A n c)) (first | exact ⟨by assumption, by assumption⟩ | go_keep) (first
    | (go_simp; go_at_call 35; refine (CE.out _ (below_drewN HB.out _)).mono ?_; rintro e w3 ⟨A3, n3, c3, rfl, hr3, hl3, hn3, hc3, hb3⟩; rw [endL_len] at hl3; subst hl3; have HK3 := HDN.out.below hb3 HDN.out.lt; have m0 := HK3.cell 0; have m1 := HK3.cell 1; have B3 := (below_drewN HB.out 1).trans (hb3.mono (Nat.le_trans HB.out.size (Nat.le_refl _))))
    | (go_simp; go_at_call 34; refine (CS.out _ _ _ hr3).mono ?_; rintro e w4 ⟨g4, rfl, hg4, hG4, hb4⟩; have HK4 := HK3.below hb4 HK3.lt; have m2 := HK4.cell 0; have m3 := HK4.cell 1; have B4 := bvia B3 hb4)
    | (go_simp; go_at_call 36; refine (loops36 _ _).mono ?_; rintro e w5 ⟨rfl, hX5, hb5⟩; have HK5 := HK4.below hb5 HK4.lt; have m4 := HK5.cell 0; have m5 := HK5.cell 1; have B5 := bvia B4 hb5; have hS5 := Seam.of HOK.out hX5 (hG4.below hb5 hG4.lt))
    | (go_simp; go_at_call 33; refine (CC.out _ _ _ hS5).mono ?_; rintro e w6 ⟨A6, n6, c6, rfl, hr6, hl6, hn6, hc6, hb6⟩; have HK6 := HK5.below hb6 HK5.lt; have m6 := HK6.cell 0; have m7 := HK6.cell 1; have B6 := bvia B5 hb6)
    | fail)
  go_wp2
  go_ret2
  exact ⟨A6, n6, c6, rfl, hr6, hl6, hn6, hc6, B6⟩
end Go.Proofs.Ytdimfbmbomgiaaa
/-
  Contracts: torchonref04.SameInts (for seats without the sheets' words), the law's ints.
-/
namespace Go.Proofs.Ytdimfbmbomgiaaa
open Go.RowKit
theorem sameInts04 (A B : Option Addr) (n m c d : Nat) (xs ys : List Int) (w : World) (hn : n ≤ 9223372036854775807) (hm : m ≤ 9223372036854775807) (hx : RdI w w.heap.size A xs) (hy : RdI w w.heap.size B ys) (hl : xs.length = n) (hl' : ys.length = m) :
    Calls Try.prog 39 #[.slice A n c, .slice B m d] w fun e w' => e = .returned (.bool (xs == ys)) ∧ Below w.heap.size w w' := by
  have HX := Lib.hid hx; clear hx
  have HY := Lib.hid hy; clear hy
  have HL := Lib.hid hl; clear hl
  have HM := Lib.hid hl'; clear hl'
  by_cases hnm : n = m
  · subst hnm
    go_enter Try.func39, Try.ntmps39
    go_wp2
    go_loopw [5] (fun i wr => ∃ k : Nat, k ≤ n ∧ i = .int .i64 k ∧ Below w.heap.size w wr ∧ (∀ (j : Nat) (x : Int), j < k → xs[j]? = some x → ys[j]? = some x)) (fun i _ => n - (intOf i).toNat)
    case atStart => exact ⟨0, Nat.zero_le _, rfl, by go_grown, fun j _ hj => absurd hj (by omega)⟩
    case round =>
      obtain ⟨k, hk, rfl, hbw, hno⟩ := hrel
      have H := Lib.hid hno; clear hno
      by_cases hlt : k < n
      · obtain ⟨x, hx⟩ := get_of_lt (l := xs) (k := k) (by rw [HL.out]; exact hlt)
        obtain ⟨y, hy⟩ := get_of_lt (l := ys) (k := k) (by rw [HM.out]; exact hlt)
        obtain ⟨b, o, rfl, hb, c1⟩ := (HX.out.below hbw (Nat.le_refl _)) k x hx
        obtain ⟨b', o', rfl, hb', c1'⟩ := (HY.out.below hbw (Nat.le_refl _)) k y hy
        have HX' := Lib.hid hx; clear hx
        have HY' := Lib.hid hy; clear hy
        go_wp2
        go_quiet (fail)
        go_wp2
        · go_ret
          exact ⟨ret_bool (beq_false (ne_of_get HX'.out HY'.out (by simpa using ‹(x != y) = true›))), below_drewN hbw _⟩
        · go_roundw
          case rel => exact ⟨k + 1, by omega, by go_num, below_drewN hbw _, pw_step H.out HX'.out HY'.out (by simpa using ‹(x != y) = false›)⟩
          case measure => simp [intOf]; omega
      · go_wp2
        go_ret
        exact ⟨ret_bool (beq_true (eq_of_get (by rw [HL.out, HM.out]) (fun j x hx => H.out j x (by have := lt_of_get hx; rw [HL.out] at this; omega) hx))), hbw⟩
  · go_enter Try.func39, Try.ntmps39
    go_wp2
    go_ret
    exact ⟨ret_bool (beq_false (ne_of_len HL.out HM.out hnm)), by go_grown⟩
end Go.Proofs.Ytdimfbmbomgiaaa
/-
  Contracts of the law's same and far.
-/
namespace Go.Proofs.Ytdimfbmbomgiaaa
open Go.RowKit
def GreatR (e : Ending) : Prop := ∃ b : Bool, e = .returned (.bool b)
theorem GreatR.of {v : Value} {b : Bool} (h : v = .bool b) : GreatR (.returned v) := ⟨b, by rw [h]⟩
set_option maxRecDepth 100000 in
set_option maxHeartbeats 1000000 in
theorem far24 (p : Int) (A : Option Addr) (n c : Nat) (ws : List Wk) (w : World) (hn : n ≤ 9223372036854775807) (hw : RdW w w.heap.size A ws) (hl : ws.length = n) (hs : ∀ x ∈ ws, x.word.size ≤ 9223372036854775807) :
    Calls Try.prog 9 #[.agg #[.int .i64 p, .slice A n c]] w fun e w' => GreatR e ∧ Below w.heap.size w w' := by
  have HW := Lib.hid hw; clear hw
  have HL := Lib.hid hl; clear hl
  have HS := Lib.hid hs; clear hs
  have K0 : Has (w.alloc (.cells #[.int .i64 p, .slice A n c] 24)) w.heap.size 24 [.int .i64 p, .slice A n c] := Has.new rfl
  by_cases h1 : (60 < n ∧ n ≤ 400) ∨ 2000 < n
  · have hx : ((60 : Int) < (n : Int) ∧ (n : Int) ≤ 400) ∨ ((2000 : Int) < (n : Int)) := by omega
    clear h1
    rcases hx with ⟨h1, h2⟩ | h1
    · have d1 : decide ((60 : Int) < (n : Int)) = true := decide_eq_true h1
      have d2 : decide ((n : Int) ≤ 400) = true := decide_eq_true h2
      go_enter Try.func9, Try.ntmps9
      go_wp2
      all_goals go_ret
      all_goals exact ⟨GreatR.of rfl, by go_grown⟩
    · have d1 : decide ((60 : Int) < (n : Int)) = true := decide_eq_true (by omega)
      have d2 : decide ((n : Int) ≤ 400) = false := decide_eq_false (by omega)
      have d3 : decide ((2000 : Int) < (n : Int)) = true := decide_eq_true h1
      go_enter Try.func9, Try.ntmps9
      go_wp2
      all_goals go_ret
      all_goals exact ⟨GreatR.of rfl, by go_grown⟩
  · have hx : ¬ ((60 : Int) < (n : Int)) ∨ ((60 : Int) < (n : Int) ∧ ¬ (n : Int) ≤ 400) := by omega
    have d3 : decide ((2000 : Int) < (n : Int)) = false := decide_eq_false (by omega)
    have d0 : (decide ((60 : Int) < (n : Int)) && decide ((n : Int) ≤ 400)) = false := by
      rcases hx with h | ⟨_, h⟩
      · rw [decide_eq_false h]; rfl
      · rw [decide_eq_false h, Bool.and_false]
    rcases hx with hx | ⟨hx, hy⟩
    case inl =>
      have d1 : decide ((60 : Int) < (n : Int)) = false := decide_eq_false hx
      go_enter Try.func9, Try.ntmps9
      go_wp2
      go_loopw [3] (fun i wr => ∃ k : Nat, k ≤ n ∧ i = .int .i64 (k : Int) ∧ wr = w.alloc (.cells #[.int .i64 p, .slice A n c] 24)) (fun i _ => n - (intOf i).toNat)
      case atStart => exact ⟨0, Nat.zero_le _, rfl, rfl⟩
      case round =>
        obtain ⟨k, hk, rfl, hwr⟩ := hrel
        have HB : Has wr w.heap.size 24 [.int .i64 p, .slice A n c] := by rw [hwr]; exact K0
        have B1 : Below w.heap.size w wr := by rw [hwr]; go_grown
        have HWR := Lib.hid hwr
        have a1 : wr.cell? ⟨w.heap.size, 1, none⟩ = some (.slice A n c) := HB.cell 1
        have q := HB.lt
        clear hwr K0
        by_cases hlt : k < n
        · obtain ⟨x, hx⟩ := get_of_lt (l := ws) (k := k) (by rw [HL.out]; exact hlt)
          obtain ⟨ba, o, rfl, hba, c0, c1, c2⟩ := (HW.out.up B1) _ x hx
          have hsx := HS.out x (mem_of_get hx)
          have jn : (k : Int) < (n : Int) := by omega
          clear hx
          by_cases hs1 : 1000 < x.word.size
          · have e1 : decide ((1000 : Int) < (x.word.size : Int)) = true := decide_eq_true (by omega)
            go_wp2
            go_ret
            exact ⟨GreatR.of rfl, B1⟩
          · have e1 : decide ((1000 : Int) < (x.word.size : Int)) = false := decide_eq_false (by omega)
            go_wp2
            go_roundw
            case rel => exact ⟨k + 1, by omega, by go_num, HWR.out⟩
            case measure => first | (simp [intOf]; done) | (simp [intOf]; omega)
        · obtain rfl : n = k := by omega
          go_wp2
          go_ret
          exact ⟨GreatR.of rfl, B1⟩
    case inr =>
      have d1 : decide ((60 : Int) < (n : Int)) = true := decide_eq_true hx
      have d2 : decide ((n : Int) ≤ 400) = false := decide_eq_false hy
      go_enter Try.func9, Try.ntmps9
      go_wp2
      go_loopw [3] (fun i wr => ∃ k : Nat, k ≤ n ∧ i = .int .i64 (k : Int) ∧ wr = w.alloc (.cells #[.int .i64 p, .slice A n c] 24)) (fun i _ => n - (intOf i).toNat)
      case atStart => exact ⟨0, Nat.zero_le _, rfl, rfl⟩
      case round =>
        obtain ⟨k, hk, rfl, hwr⟩ := hrel
        have HB : Has wr w.heap.size 24 [.int .i64 p, .slice A n c] := by rw [hwr]; exact K0
        have B1 : Below w.heap.size w wr := by rw [hwr]; go_grown
        have HWR := Lib.hid hwr
        have a1 : wr.cell? ⟨w.heap.size, 1, none⟩ = some (.slice A n c) := HB.cell 1
        have q := HB.lt
        clear hwr K0
        by_cases hlt : k < n
        · obtain ⟨x, hx⟩ := get_of_lt (l := ws) (k := k) (by rw [HL.out]; exact hlt)
          obtain ⟨ba, o, rfl, hba, c0, c1, c2⟩ := (HW.out.up B1) _ x hx
          have hsx := HS.out x (mem_of_get hx)
          have jn : (k : Int) < (n : Int) := by omega
          clear hx
          by_cases hs1 : 1000 < x.word.size
          · have e1 : decide ((1000 : Int) < (x.word.size : Int)) = true := decide_eq_true (by omega)
            go_wp2
            go_ret
            exact ⟨GreatR.of rfl, B1⟩
          · have e1 : decide ((1000 : Int) < (x.word.size : Int)) = false := decide_eq_false (by omega)
            go_wp2
            go_roundw
            case rel => exact ⟨k + 1, by omega, by go_num, HWR.out⟩
            case measure => first | (simp [intOf]; done) | (simp [intOf]; omega)
        · obtain rfl : n = k := by omega
          go_wp2
          go_ret
          exact ⟨GreatR.of rfl, B1⟩
theorem rdI_nat {w : World} {B : Nat} {A : Option Addr} {l : List Nat} (h : Rd1 vNat w B A l) : RdI w B A (l.map (fun (k : Nat) => (k : Int))) := fun k x hx => by
  rw [List.getElem?_map] at hx
  cases hl : l[k]? with
  | none => rw [hl] at hx; cases hx
  | some y =>
    rw [hl] at hx
    injection hx with hx
    obtain ⟨b, o, h1, h2, h3⟩ := h k y hl
    exact ⟨b, o, h1, h2, by rw [h3, ← hx]⟩
theorem nat_inj : ∀ (a b : List Nat), a.map (fun (k : Nat) => (k : Int)) = b.map (fun (k : Nat) => (k : Int)) → a = b
  | [], [], _ => rfl
  | [], _ :: _, h => by simp at h
  | _ :: _, [], h => by simp at h
  | x :: a, y :: b, h => by
    rw [List.map_cons, List.map_cons] at h
    injection h with h1 h2
    rw [nat_inj a b h2, show x = y by omega]
theorem natInt_eq (a b : List Nat) : (a.map (fun (k : Nat) => (k : Int)) == b.map (fun (k : Nat) => (k : Int))) = (a == b) := by
  by_cases h : a = b
  · subst h; simp
  · have h2 : a.map (fun (k : Nat) => (k : Int)) ≠ b.map (fun (k : Nat) => (k : Int)) := fun e => h (nat_inj a b e)
    rw [beq_eq_false_iff_ne.2 h, beq_eq_false_iff_ne.2 h2]
/-- are the first k lists equal? -/
def sameTo (xs ys : List (List Nat)) (k : Nat) : Bool := (xs.take k == ys.take k)
set_option maxRecDepth 100000 in
set_option maxHeartbeats 1000000 in
theorem same18 (A B : Option Addr) (n m c d : Nat) (xs ys : List (List Nat)) (w : World) (hn : n ≤ 9223372036854775807) (hm : m ≤ 9223372036854775807) (hx : RdL w w.heap.size A xs) (hy : RdL w w.heap.size B ys) (hl : xs.length = n) (hl' : ys.length = m) (hxl : ∀ l ∈ xs, l.length ≤ 48) (hyl : ∀ l ∈ ys, l.length ≤ 48) :
    Calls Try.prog 18 #[.slice A n c, .slice B m d] w fun e w' => e = .returned (.bool (xs == ys)) ∧ Below w.heap.size w w' := by
  have HX := Lib.hid hx; clear hx
  have HY := Lib.hid hy; clear hy
  have HL := Lib.hid hl; clear hl
  have HL' := Lib.hid hl'; clear hl'
  have HXL := Lib.hid hxl; clear hxl
  have HYL := Lib.hid hyl; clear hyl
  by_cases hnm : n = m
  case neg =>
    have hd : ((n : Int) != (m : Int)) = true := by simp; omega
    have HE : Hid ((xs == ys) = false) := by
      show _ = _
      rw [beq_eq_false_iff_ne]
      intro e
      have h1 := HL.out; have h2 := HL'.out
      rw [e] at h1; omega
    clear hnm
    go_enter Try.func18, Try.ntmps18
    go_wp2
    go_ret
    exact ⟨by rw [HE.out]; rfl, Below.refl _ _⟩
  subst hnm
  go_enter Try.func18, Try.ntmps18
  go_wp2
  go_loopw [5] (fun v wr => ∃ k : Nat, k ≤ n ∧ v = .int .i64 (k : Int) ∧ Hid (xs.take k = ys.take k) ∧ Hid (Below w.heap.size w wr)) (fun v _ => n - (intOf v).toNat)
  case atStart => exact ⟨0, Nat.zero_le _, rfl, rfl, Below.refl _ _⟩
  case round =>
    obtain ⟨k, hk, rfl, HT, HB⟩ := hrel
    obtain ⟨wo, rfl⟩ : ∃ wo : World, wo = wr := ⟨_, rfl⟩
    by_cases hlt : k < n
    · have jk : (k : Int) < (n : Int) := by omega
      obtain ⟨x, hxk⟩ := get_of_lt (l := xs) (k := k) (by rw [HL.out]; exact hlt)
      obtain ⟨y, hyk⟩ := get_of_lt (l := ys) (k := k) (by rw [HL'.out]; exact hlt)
      obtain ⟨b1, o1, A1, c1, e1, hb1, cx, rx⟩ := (HX.out.up HB.out) k x hxk
      obtain ⟨b2, o2, A2, c2, e2, hb2, cy, ry⟩ := (HY.out.up HB.out) k y hyk
      subst e1 e2
      have lx := HXL.out x (mem_of_get hxk)
      have ly := HYL.out y (mem_of_get hyk)
      have HXK := Lib.hid hxk; have HYK := Lib.hid hyk
      have CS := Lib.hid (fun (W : World) (hb : Below wo.heap.size wo W) => sameInts04 A1 A2 x.length y.length c1 c2 _ _ W (by omega) (by omega) ((rdI_nat rx).up hb) ((rdI_nat ry).up hb) (List.length_map _) (List.length_map _))
      rw [natInt_eq] at CS
      have HRX := Lib.hid rx; have HRY := Lib.hid ry
      clear hxk hyk rx ry
      by_cases hxy : x = y
      · have hd : (x == y) = true := by simpa using hxy
        rw [hd] at CS
        have HXY := Lib.hid hxy
        clear hxy hd
        go_wp2
        go_region_held3 (fun W' => W'.cell? ⟨b1, o1 + k, none⟩ = some (.slice A1 x.length c1) ∧ W'.cell? ⟨b2, o2 + k, none⟩ = some (.slice A2 y.length c2)) (first | exact ⟨cx, cy⟩ | exact ⟨by assumption, by assumption⟩ | go_keep) (first | (go_simp; go_at_call 39; refine (CS.out _ (below_drewN (Below.refl _ _) _)).mono ?_; rintro e w3 ⟨rfl, hb3⟩; have m0 := (hb3.cell (p := ⟨b1, o1 + k, none⟩) hb1).trans cx; have m1 := (hb3.cell (p := ⟨b2, o2 + k, none⟩) hb2).trans cy) | fail)
        go_wp2
        go_roundw
        case rel =>
          refine ⟨k + 1, by omega, by go_num, ?_, bvia HB.out ((below_drewN (Below.refl _ _) 1).trans hb3)⟩
          show _ = _
          rw [List.take_add_one, List.take_add_one, HXK.out, HYK.out, HT.out, HXY.out]
        case measure => first | (simp [intOf]; done) | (simp [intOf]; omega)
      · have hd : (x == y) = false := by simpa using hxy
        rw [hd] at CS
        have HE : Hid ((xs == ys) = false) := by
          show _ = _
          rw [beq_eq_false_iff_ne]
          intro e
          have h1 := HXK.out
          rw [e, HYK.out] at h1
          injection h1 with h1
          exact hxy h1.symm
        clear hxy hd
        go_wp2
        go_region_held3 (fun W' => W'.cell? ⟨b1, o1 + k, none⟩ = some (.slice A1 x.length c1) ∧ W'.cell? ⟨b2, o2 + k, none⟩ = some (.slice A2 y.length c2)) (first | exact ⟨cx, cy⟩ | exact ⟨by assumption, by assumption⟩ | go_keep) (first | (go_simp; go_at_call 39; refine (CS.out _ (below_drewN (Below.refl _ _) _)).mono ?_; rintro e w3 ⟨rfl, hb3⟩; have m0 := (hb3.cell (p := ⟨b1, o1 + k, none⟩) hb1).trans cx; have m1 := (hb3.cell (p := ⟨b2, o2 + k, none⟩) hb2).trans cy) | fail)
        go_wp2
        go_ret
        exact ⟨by rw [HE.out]; rfl, bvia HB.out ((below_drewN (Below.refl _ _) 1).trans hb3)⟩
    · obtain rfl : k = n := by omega
      have HE : Hid (xs = ys) := by
        have h1 := HT.out
        rw [List.take_of_length_le (by rw [HL.out]; exact Nat.le_refl _), List.take_of_length_le (by rw [HL'.out]; exact Nat.le_refl _)] at h1
        exact h1
      go_wp2
      go_ret
      exact ⟨by rw [show (xs == ys) = true by rw [HE.out]; simp]; rfl, HB.out⟩
end Go.Proofs.Ytdimfbmbomgiaaa
/-
  Plain words of knots: what is sewn to what, and how often knots cross.
-/
namespace Go.Proofs.Ytdimfbmbomgiaaa
open Go.RowKit
def knotL (P s : Nat) : List (Nat × Nat) := (List.range P).map (fun p => (p, (p + s) % P))
def knC (q : Nat × Nat) : List Value := [vNat q.1, vNat q.2]
def knsC (ks : List (Nat × Nat)) : List Value := ks.flatMap knC
/-- knots in memory -/
def RdK (w : World) (B : Nat) (A : Option Addr) (ks : List (Nat × Nat)) : Prop :=
  ∀ (k : Nat) (x : Nat × Nat), ks[k]? = some x → ∃ b o, A = some ⟨b, o, none⟩ ∧ b < B ∧ w.cell? ⟨b, o + k*2, none⟩ = some (vNat x.1) ∧ w.cell? ⟨b, o + k*2 + 1, none⟩ = some (vNat x.2)
theorem RdK.below {w w' : World} {B B' : Nat} {A : Option Addr} {ks : List (Nat × Nat)} (h : RdK w B A ks) (hb : Below B w w') (hB : B ≤ B') : RdK w' B' A ks := fun k x hx => by
  obtain ⟨b, o, h1, h2, h3, h4⟩ := h k x hx
  exact ⟨b, o, h1, Nat.lt_of_lt_of_le h2 hB, (hb.cell h2).trans h3, (hb.cell h2).trans h4⟩
theorem RdK.up {w w' : World} {A : Option Addr} {ks : List (Nat × Nat)} (h : RdK w w.heap.size A ks) (hb : Below w.heap.size w w') : RdK w' w'.heap.size A ks := h.below hb hb.size
theorem knsC_len (ks : List (Nat × Nat)) : (knsC ks).length = ks.length * 2 := by
  induction ks with
  | nil => rfl
  | cons x ks ih => simp only [knsC, List.flatMap_cons, List.length_append] at ih ⊢; rw [ih]; simp [knC]; omega
theorem knsC_get {ks : List (Nat × Nat)} {k : Nat} {x : Nat × Nat} (hx : ks[k]? = some x) : (knsC ks)[k*2]? = some (vNat x.1) ∧ (knsC ks)[k*2+1]? = some (vNat x.2) := by
  induction ks generalizing k with
  | nil => simp at hx
  | cons y ks ih =>
    cases k with
    | zero => simp at hx; subst hx; simp [knsC, knC]
    | succ k =>
      have := ih (k := k) (by simpa using hx)
      have e1 : (k + 1) * 2 = k * 2 + 2 := by omega
      simp only [knsC, List.flatMap_cons] at this ⊢
      rw [e1]
      have hl : (knC y).length = 2 := rfl
      refine ⟨?_, ?_⟩ <;> (rw [List.getElem?_append_right (by rw [hl]; omega), hl])
      · rw [show k * 2 + 2 - 2 = k * 2 by omega]; exact this.1
      · rw [show k * 2 + 2 + 1 - 2 = k * 2 + 1 by omega]; exact this.2
theorem knsC_app (a b : List (Nat × Nat)) : knsC (a ++ b) = knsC a ++ knsC b := by simp [knsC]
theorem rdK_has {w : World} {g : Nat} {t : TypeId} {ks : List (Nat × Nat)} {rest : List Value} (h : Has w g t (knsC ks ++ rest)) : RdK w w.heap.size (some ⟨g, 0, none⟩) ks := fun k x hx => by
  obtain ⟨e1, e2⟩ := knsC_get hx
  have hk := lt_of_get hx
  refine ⟨g, 0, rfl, h.lt, ?_, ?_⟩
  · rw [Nat.zero_add, h.cell, List.getElem?_append_left (by rw [knsC_len]; omega)]; exact e1
  · rw [Nat.zero_add, h.cell, List.getElem?_append_left (by rw [knsC_len]; omega)]; exact e2
theorem own_rdK {w : World} {base : Nat} {e : TypeId} {n c : Nat} {A : Option Addr} {ks : List (Nat × Nat)} (h : w.ownsRow base e 2 (.slice A n c) n (knsC ks)) : RdK w w.heap.size A ks := fun k x hx => by
  obtain ⟨e1, e2⟩ := knsC_get hx
  obtain ⟨g, h1, _, h2, h3⟩ := own_at h e1
  obtain ⟨g2, h4, _, _, h5⟩ := own_at h e2
  obtain rfl : g = g2 := by rw [h1] at h4; injection h4 with h4; injection h4
  exact ⟨g, 0, h1, h2, by rw [Nat.zero_add]; exact h3, by rw [Nat.zero_add]; exact h5⟩
theorem knotL_len (P s : Nat) : (knotL P s).length = P := by simp [knotL]
theorem knotL_get {P s k : Nat} (h : k < P) : (knotL P s)[k]? = some (k, (k + s) % P) := by simp [knotL, h]
theorem knot_take {P s k : Nat} (h : k < P) : (knotL P s).take (k + 1) = (knotL P s).take k ++ [(k, (k + s) % P)] := by
  rw [List.take_add_one, knotL_get h]; rfl
/-- two knots cross -/
theorem knot_cross {P s k p : Nat} (hs : s < P) (hk : k < p) (hp : p < P) : ((p + s) % P < (k + s) % P) ↔ (P - s ≤ p ∧ k < P - s) := by
  have h1 : ∀ x, x < P → (x + s) % P = if x < P - s then x + s else x + s - P := fun x hx => by
    split
    · exact Nat.mod_eq_of_lt (by omega)
    · rw [Nat.mod_eq_sub_mod (by omega), Nat.mod_eq_of_lt (by omega)]
  rw [h1 p hp, h1 k (by omega)]
  split <;> split <;> omega
/-- how often knots cross, up to the k-th before the p-th -/
def crossN (P s p k : Nat) : Nat := (p - (P - s)) * (P - s) + if P - s ≤ p then min k (P - s) else 0
theorem crossN_zero (P s : Nat) (hs : s < P) : crossN P s 0 0 = 0 := by
  unfold crossN; rw [Nat.zero_sub, Nat.zero_mul, if_neg (by omega)]
theorem crossN_next {P s p : Nat} : crossN P s p p = crossN P s (p + 1) 0 := by
  unfold crossN
  by_cases h : P - s ≤ p
  · rw [if_pos h, if_pos (by omega), show p + 1 - (P - s) = (p - (P - s)) + 1 by omega, Nat.add_mul]; omega
  · rw [if_neg h, show p - (P - s) = 0 by omega, show p + 1 - (P - s) = 0 by omega]
    split <;> omega
theorem crossN_step {P s p k : Nat} (hs : s < P) (hk : k < p) (hp : p < P) : crossN P s p (k + 1) = crossN P s p k + if (p + s) % P < (k + s) % P then 1 else 0 := by
  unfold crossN
  by_cases h : P - s ≤ p
  · rw [if_pos h, if_pos h]
    by_cases h2 : k < P - s
    · rw [if_pos ((knot_cross hs hk hp).2 ⟨h, h2⟩)]; omega
    · rw [if_neg (fun h3 => h2 ((knot_cross hs hk hp).1 h3).2)]; omega
  · rw [if_neg h, if_neg h, if_neg (fun h3 => h ((knot_cross hs hk hp).1 h3).1)]
theorem crossN_all {P s : Nat} (hs : s < P) : crossN P s P 0 = s * (P - s) := by
  unfold crossN
  rw [show P - (P - s) = s by omega, if_pos (by omega)]; omega
theorem crossN_le {P s p k : Nat} (hP : P ≤ 24) (hp : p ≤ P) : crossN P s p k ≤ 1000 := by
  unfold crossN
  have h1 : (p - (P - s)) * (P - s) ≤ 24 * 24 := Nat.mul_le_mul (by omega) (by omega)
  split <;> omega
/-- the knots and how often they cross: nothing where there is an error -/
def knR (p : Int) (ws : List Wk) (h : Int) : List (Nat × Nat) := if seE p ws h = 0 then knotL p.toNat h.toNat else []
def kcR (p : Int) (ws : List Wk) (h : Int) : Int := if seE p ws h = 0 then ((h.toNat * (p.toNat - h.toNat) : Nat) : Int) else 0
/-- an ending: knots in memory, a number and an error -/
def RetKE (ks : List (Nat × Nat)) (k err : Int) (w : World) (e : Ending) (w' : World) : Prop := ∃ A n c, e = .returned (.tuple #[.slice A n c, .int .i64 k, .int .i64 err]) ∧ RdK w' w'.heap.size A ks ∧ ks.length = n ∧ n ≤ c ∧ c ≤ 9223372036854775807 ∧ Below w.heap.size w w'
theorem infoKn : (Try.prog.info? 40).map (fun i => (i.zero, i.size, i.bytes)) = some (some (.agg #[.int .i64 0, .int .i64 0]), 2, 16) := by kernel_rfl
theorem made2 (z : Value) (n : Nat) : madeCells #[z, z] n = (List.replicate n z).toArray := by
  apply Array.ext
  · rw [size_madeCells]; simp
  · intro i h1 h2
    have h3 : i % 2 = 0 ∨ i % 2 = 1 := by omega
    unfold madeCells
    rcases h3 with h3 | h3 <;> simp [h3]
theorem mkKn (n : Nat) (hn : n ≤ 1000) (W : World) : (Instr.makeSlice 32 (.int .i64 (n : Int)) (.int .i64 (n : Int))).run Try.prog W = .ok (.slice (some ⟨W.heap.size, 0, none⟩) n n) (W.alloc (.cells (List.replicate (n * 2) (vInt 0)).toArray 40)) := by
  obtain ⟨i, hi, hz, hs, hb⟩ := info_parts infoKn
  have h := run_make (P := Try.prog) W 32 40 i (.agg #[.int .i64 0, .int .i64 0]) Try.underlying32 hi hz .i64 .i64 (n : Int) (n : Int) (by omega) (Int.le_refl _) (by rw [hb]; omega) (by omega)
  rw [hs] at h
  simpa [Value.cells, made2] using h
end Go.Proofs.Ytdimfbmbomgiaaa
