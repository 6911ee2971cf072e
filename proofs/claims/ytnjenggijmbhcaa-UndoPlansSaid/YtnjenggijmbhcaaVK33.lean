/-
  Contracts of slices.Backward, slices.All and undo.works: the iterators that they make.
-/
import Derived.Test.YtnjenggijmbhcaaVK5
import Derived.Test.YtnjenggijmbhcaaVK9
import Derived.Test.YtnjenggijmbhcaaVK23
import Derived.Test.YtnjenggijmbhcaaVK32
namespace Go.Proofs.Ytnjenggijmbhcaa
open Go.RowKit
set_option maxRecDepth 100000 in
theorem backward73 (A : Option Addr) (n c : Nat) (w : World) : Calls Try.prog 73 #[.slice A n c] w fun e w' => e = .returned (.func (.func 99) #[] #[.pointer (some ⟨w.heap.size, 0, none⟩)]) ∧ w' = w.alloc (.cells #[.slice A n c] 29) := by
  go_enter Try.func73, Try.ntmps73
  go_wp2
  go_ret
  exact ⟨rfl, rfl⟩
set_option maxRecDepth 100000 in
theorem all75 (A : Option Addr) (n c : Nat) (w : World) : Calls Try.prog 75 #[.slice A n c] w fun e w' => e = .returned (.func (.func 100) #[] #[.pointer (some ⟨w.heap.size, 0, none⟩)]) ∧ w' = w.alloc (.cells #[.slice A n c] 29) := by
  go_enter Try.func75, Try.ntmps75
  go_wp2
  go_ret
  exact ⟨rfl, rfl⟩
set_option maxRecDepth 100000 in
theorem works72 (sb g : Nat) (caps : Array Value) (w : World) : Calls Try.prog 72 #[.pointer (some ⟨sb, 0, none⟩), .func (.func g) #[] caps] w fun e w' => e = .returned (.func (.func 98) #[] #[.pointer (some ⟨w.heap.size + 1, 0, none⟩), .pointer (some ⟨w.heap.size, 0, none⟩)]) ∧ w' = (w.alloc (.cells #[.pointer (some ⟨sb, 0, none⟩)] 70)).alloc (.cells #[.func (.func g) #[] caps] 114) := by
  go_enter Try.func72, Try.ntmps72
  go_wp2
  go_ret
  exact ⟨rfl, rfl⟩
end Go.Proofs.Ytnjenggijmbhcaa
/-
  slices.AppendSeq at works, over an iterator of works.
-/
namespace Go.Proofs.Ytnjenggijmbhcaa
open Go.RowKit
attribute [local go_sem] Oper.semAt_some
theorem own_cellsW {W : World} {base : Nat} {e : TypeId} {size n : Nat} {v : Value} {xs : List Value} (h : W.ownsRow base e size v n xs) {g : Nat} (hg : v.ownBlock = some g) : ∃ cs, Has W g e cs := by
  rcases h.2 with ⟨rfl, _⟩ | ⟨g', cap, cur, rfl, _, hh, _⟩
  · simp [Value.ownBlock] at hg
  · have : g' = g := by simpa [Value.ownBlock] using hg
    subst this
    exact ⟨cur.toList, by unfold Has; rw [hh]⟩
theorem own_deadW {W W' : World} {base : Nat} {e : TypeId} {size n : Nat} {v : Value} {xs : List Value} {row : Option Nat} (h : W.ownsRow base e size v n xs) (hg : W.grownBy W' row) (hr : ∀ r, row = some r → ∃ o : Obj, W.heap[r]? = some o ∧ o.isCells = false) : W'.ownsRow base e size v n xs := by
  refine h.kept hg ?_
  cases hv : v.ownBlock with
  | none => exact .inl rfl
  | some g =>
    refine .inr fun e => ?_
    obtain ⟨cs, hc⟩ := own_cellsW h hv
    obtain ⟨o, h1, h2⟩ := hr g e.symm
    unfold Has at hc
    rw [hc] at h1; injection h1 with h1; rw [← h1] at h2; cases h2
theorem wpListIn_appW {l n0 : Nat} {P : Program} {w : World} {ops : Array Oper} {rest : List Oper} {o : Oper} {a : Act} {Q : Exit → Act → World → Prop} (hgd : o.guard = none) (s x : Operand) (t : TypeId)
    (ho : o.op = .call { callee := .builtin .append, args := #[s, x], argTypes := #[t, t] })
    (base : Nat) (e : TypeId) (z : Value) (size bytes : Nat) (ht : P.underlying t = some (.slice e)) (hinf : (P.info? e).map (fun i => (i.zero, i.size, i.bytes)) = some (some z, size, bytes))
    (hzs : z.cells.size = size) (hsz : 0 < size) (hby : bytes ≤ 100)
    (v : Value) (n : Nat) (xs : List Value) (hs : a.eval s = v) (hown : w.ownsRow base e size v n xs)
    (b : Nat) (news : List Value) (hx : a.eval x = .slice (some ⟨b, 0, none⟩) 1 1) (hl : news.length = size) (hnews : ∀ j u, news[j]? = some u → w.cell? ⟨b, j, none⟩ = some u) (h1 : ∀ u ∈ news, u.oneCell' = true)
    (hn : n ≤ 1000000000) (hbase : base ≤ w.heap.size)
    (h : ∀ g cap w', base ≤ g → w'.ownsRow base e size (.slice (some ⟨g, 0, none⟩) (n + 1) cap) (n + 1) (xs ++ news) → w.grownBy w' v.ownBlock → (some g = v.ownBlock ∨ g = w.heap.size) →
      wpListIn (Fence.wide.inRound l) n0 P ops Q rest (a.put o.dst (.slice (some ⟨g, 0, none⟩) (n + 1) cap)) w') : wpListIn (Fence.wide.inRound l) n0 P ops Q (o :: rest) a w := by
  obtain ⟨i, hi, hz, hsize, hb⟩ := info_parts hinf
  refine wpListIn_plain hgd fun K hK => ?_
  have hmul : (n + 1) * bytes ≤ 140737488355328 := by
    have : (n + 1) * bytes ≤ 1000000001 * 100 := Nat.mul_le_mul (by omega) hby
    omega
  obtain ⟨v', w', hrun, h2, h3, h4, h5⟩ := run_append_own_at (P := P) w base t o.type e i z size bytes ht hi hz hsize hb hzs hsz v n xs hown ⟨b, 0, none⟩ 1 1 news (by rw [hl, Nat.one_mul]) (fun j u hu => by
    have := hnews j u hu
    have hadd : (⟨b, 0, none⟩ : Addr).add j = ⟨b, j, none⟩ := by unfold Addr.add; split <;> simp_all
    rw [hadd]; exact this) h1 (by simp only [maxLen]; omega) hmul hbase
  have hnn : v' ≠ .slice none 0 0 := fun e => by have := h4.1 e; omega
  rcases h2.2 with ⟨rfl, _⟩ | ⟨g, cap, cur, rfl, hg, _⟩
  · exact absurd rfl hnn
  · refine ⟨fun _ _ => trivial, ?_⟩
    rw [Fence.inRound_round, Oper.semAt_some l _ _ (by rw [ho]; intro c hc; cases hc)]
    unfold execOp
    simp only [ho, resolve, invoke, builtin, Sem.run_bind, Sem.run_pure, Result.andThen_ok, List.map_toArray, List.map_cons, List.map_nil, hs, hx, hrun]
    refine hK _ _ (h g cap w' hg h2 h3 ?_)
    rcases h5 with h5 | h5
    · left; rw [← h5]; rfl
    · right; simpa [Value.ownBlock] using h5
theorem postM_markW {P : Program} {fn : Func} {R : Ending → World → Prop} {a : Act} {w : World} {t : Tmp} {D : Nat} {x : Value} (hres : fn.results = #[.tmp t])
    (hx : a.tmps.getD t undef = x) (hd : a.defers = [{ target := .collected D, args := #[] }]) (hD : w.heap[D]? = some (.deferred (some [])))
    (hR : R (.returned x) (w.putObj D (.deferred none))) : bodyPostM Fence.wide 0 P fn R .ret a w := by
  show LeavesInM Fence.wide 0 P fn a.tmps R a.defers .returning w
  rw [hd]
  refine ⟨by simp, .inl ⟨_, _, rfl, run_takeDeferred hD, ?_⟩⟩
  exact ⟨x, by rw [results_tmp hres, hx], hR⟩
/-- all blocks of w1 but B, and but rows of works from w0 on, are as they were -/
structure StayW (w0 B : Nat) (w1 V : World) : Prop where
  os : V.os = w1.os
  tape : V.tape = w1.tape
  output : V.output = w1.output
  size : w1.heap.size ≤ V.heap.size
  same : ∀ r, r < w1.heap.size → r ≠ B → (r < w0 ∨ ∀ cs fr, w1.heap[r]? ≠ some (.cells cs 26 fr)) → V.heap[r]? = w1.heap[r]?
theorem StayW.refl (w0 B : Nat) (w1 : World) : StayW w0 B w1 w1 := ⟨rfl, rfl, rfl, Nat.le_refl _, fun _ _ _ _ => rfl⟩
theorem StayW.far {w0 B : Nat} {w1 V V' : World} {row : Option Nat} (h : StayW w0 B w1 V) (hg : V.grownBy V' row) (hr : ∀ r, row = some r → w1.heap.size ≤ r) : StayW w0 B w1 V' :=
  ⟨hg.os.trans h.os, hg.tape.trans h.tape, hg.output.trans h.output, Nat.le_trans h.size hg.size, fun r h1 h2 h3 => (hg.block r (Nat.lt_of_lt_of_le h1 h.size) (fun e => by have := hr r e.symm; omega)).trans (h.same r h1 h2 h3)⟩
set_option maxRecDepth 100000 in
set_option maxHeartbeats 8000000 in
theorem appendSeqW (gf : Nat) (caps : Array Value) (w0 : Nat) (v0 : Value) (us lst : List Wk) (w : World) (hown : w.ownsRow w0 26 3 v0 us.length (wksCells us)) (hw0 : w0 ≤ w.heap.size)
    (eg : ∀ args w, (callFunc gf args).run Try.prog w = .ok (.enter gf args) w) (hseq : SeqW gf caps w0 w.heap.size (w.alloc (.cells #[v0] 22)) lst) (hlen : us.length + lst.length ≤ 100000) :
    Calls Try.prog 74 #[v0, .func (.func gf) #[] caps] w fun e w' => ∃ A n c, e = .returned (.slice A n c) ∧ w'.ownsRow w0 26 3 (.slice A n c) n (wksCells (us ++ lst)) ∧ (us ++ lst).length = n ∧ StayW w0 w.heap.size w w' := by
  obtain ⟨A0, c0, rfl⟩ := own_form hown
  refine (callsIn_wide (n := 0)).1 (callsIn_of_wp_marks Try.func74 rfl trivial ?_)
  simp only [Try.ntmps74, List.size_toArray, List.length_cons, List.length_nil, Nat.reduceAdd, Nat.reduceSub, Array.replicate_succ, Array.replicate_zero, List.push_toArray, List.append_toArray, List.nil_append, List.cons_append]
  refine wpIn_wide.2 ?_
  go_wp2
  obtain ⟨w1, hw1⟩ : ∃ w1, w1 = w.alloc (.cells #[.slice A0 us.length c0] 22) := ⟨_, rfl⟩
  have K5 : Has w1 w.heap.size 22 [.slice A0 us.length c0] := by rw [hw1]; exact Has.new rfl
  have hsz : w1.heap.size = w.heap.size + 1 := by rw [hw1]; simp
  have O1 : w1.ownsRow w0 26 3 (.slice A0 us.length c0) us.length (wksCells us) := by rw [hw1]; exact hown.alloc _
  have S1 : ∀ r, r < w.heap.size → w1.heap[r]? = w.heap[r]? := fun r hr => by rw [hw1]; exact Below.heap_alloc _ _ r hr
  have T1 : w1.os = w.os ∧ w1.tape = w.tape ∧ w1.output = w.output := by rw [hw1]; exact ⟨rfl, rfl, rfl⟩
  rw [← hw1] at hseq
  rw [← hw1]
  clear hw1 hown
  obtain ⟨B, hB⟩ : ∃ B, B = w.heap.size := ⟨_, rfl⟩
  rw [← hB] at hseq K5 hsz hw0 S1
  have HBB := Lib.hid hB
  simp only [← hB]
  clear hB
  have OI : ∀ hi : Nat, OwnFrom w1.heap.size (fun (pre : List Wk) V => (∃ A c, Has V B 22 [.slice A (us.length + pre.length) c] ∧ V.ownsRow w0 26 3 (.slice A (us.length + pre.length) c) (us.length + pre.length) (wksCells (us ++ pre))) ∧ StayW w0 B w1 V) := fun _ pre V V' row ⟨⟨A, c, h1, h2⟩, h3⟩ hg hr => by
    have hBl : B < V.heap.size := h1.lt
    exact ⟨⟨A, c, h1.same (hg.block B hBl (fun e => by have := (hr B e.symm).1; omega)), own_deadW h2 hg (fun r e => (hr r e).2)⟩, h3.far hg (fun r e => (hr r e).1)⟩
  refine wpIn_wide.1 (range_lawK (n := 0) (gf := gf) (lb := caps) rfl eg encW (fun _ => rfl) (fun _ pre V => (∃ A c, Has V B 22 [.slice A (us.length + pre.length) c] ∧ V.ownsRow w0 26 3 (.slice A (us.length + pre.length) c) (us.length + pre.length) (wksCells (us ++ pre))) ∧ StayW w0 B w1 V) (fun ys => ys = lst) (fun _ pre x _ => (pre ++ [x]) <+: lst) (fun l' _ X Y => KeepW B w0 l' X Y) (fun _ _ _ _ _ h k => h.trans k) (fun _ _ X o o' h ho => KeepW.put X o o' h ho) OI ⟨⟨A0, c0, by simpa using K5, by simpa using O1⟩, StayW.refl _ _ _⟩ ?iter ?rnd ?done)
  case iter =>
    intro l' d' r0 V hd1 hd2 hKB hMid hY'
    have hst := hMid.inv.2
    obtain ⟨A9, c9, hb9, _⟩ := hMid.inv.1
    have hag : Agree w0 B w1 V := ⟨by omega, hst.size, hst.same, ⟨_, hb9, rfl⟩⟩
    exact callsIn_wide.2 ((hseq _ l' d' r0 V (OI 0) (by omega) (Array.getElem?_eq_some_iff.1 hMid.rec_).1 hag hMid (fun pre x W1 hp _ hm => hY' 0 pre x W1 hp (Nat.zero_le _) hm)).mono (fun e W' ⟨hv, hm, _⟩ => ⟨hv, 0, lst, rfl, hm⟩))
  case done =>
    rintro D hi xs' V hD rfl ⟨⟨X, cx, j1, j2⟩, j3⟩ hDf
    have e0 : V.cell? ⟨B, 0, none⟩ = some (.slice X (us.length + xs'.length) cx) := j1.cell 0
    have q5 := j1.lt
    have HJ := Lib.hid j2
    have HJ3 := Lib.hid j3
    clear j1 j2 j3
    go_wp2
    refine postM_markW rfl rfl rfl hDf ?_
    have hne : ∀ r, (Value.slice X (us.length + xs'.length) cx).ownBlock = some r → r ≠ D := fun r hr e => by
      obtain ⟨cs, hc⟩ := own_cellsW HJ.out hr
      unfold Has at hc
      rw [e, hDf] at hc; cases hc
    have hJ : (V.putObj D (.deferred none)).ownsRow w0 26 3 (.slice X (us.length + xs'.length) cx) (us.length + xs'.length) (wksCells (us ++ xs')) := own_same HJ.out (fun g hg => World.putObj_heap_other (hne g hg))
    have hBw := HBB.out
    refine ⟨X, us.length + xs'.length, cx, rfl, hJ, by rw [List.length_append], ⟨HJ3.out.os.trans T1.1, HJ3.out.tape.trans T1.2.1, HJ3.out.output.trans T1.2.2, by show _ ≤ (V.putObj D _).heap.size; simp [World.putObj]; have := HJ3.out.size; omega, fun r h1 h2 h3 => ?_⟩⟩
    refine (World.putObj_heap_other (by omega)).trans ((HJ3.out.same r (by omega) (by omega) (h3.imp id (fun hn cs fr => ?_))).trans (S1 r (by omega)))
    rw [S1 r (by omega)]; exact hn cs fr
  case rnd =>
    rintro hi l' pre x V o hok hl' htop hinv hVl ho
    have hpl : pre.length ≤ lst.length := by have := hok.length_le; simp at this; omega
    have hll := (Array.getElem?_eq_some_iff.1 hVl).1
    dsimp only [encW]
    gi_wp2
    have hVB := hinv.2.size
    refine ⟨KeepsOthers.alloc _ _, KeepW.of_alloc _ _ _ _ _, fun o' ho' => ?_⟩
    have hV1 : (V.alloc (.cells #[.int .i64 x.kind, .int .i64 x.at_, .string x.word] 26)).heap[l']? = some o := (Below.heap_alloc _ _ l' hll).trans hVl
    have hinv1 := (OI 0).putObj o' ((OI 0).alloc (.cells #[.int .i64 x.kind, .int .i64 x.at_, .string x.word] 26) hinv) (by omega) hV1 ho
    have N1 : Has (V.alloc (.cells #[.int .i64 x.kind, .int .i64 x.at_, .string x.word] 26)) V.heap.size 26 [.int .i64 x.kind, .int .i64 x.at_, .string x.word] := Has.new rfl
    obtain ⟨YY, hYY⟩ : ∃ YY, YY = (V.alloc (.cells #[.int .i64 x.kind, .int .i64 x.at_, .string x.word] 26)).putObj l' o' := ⟨_, rfl⟩
    have N2 : Has YY V.heap.size 26 [.int .i64 x.kind, .int .i64 x.at_, .string x.word] := by rw [hYY]; exact N1.same (World.putObj_heap_other (by omega))
    rw [← hYY] at hinv1 ⊢
    obtain ⟨⟨X, cx, j1, j2⟩, j3⟩ := hinv1
    have e0 : YY.cell? ⟨B, 0, none⟩ = some (.slice X (us.length + pre.length) cx) := j1.cell 0
    have f0 : YY.cell? ⟨V.heap.size, 0, none⟩ = some (.int .i64 x.kind) := N2.cell 0
    have f1 : YY.cell? ⟨V.heap.size, 1, none⟩ = some (.int .i64 x.at_) := N2.cell 1
    have f2 : YY.cell? ⟨V.heap.size, 2, none⟩ = some (.string x.word) := N2.cell 2
    have q0 := j1.lt
    have q1 := N2.lt
    have HJ1 := Lib.hid j1
    have HJ2 := Lib.hid j2
    have HJ3 := Lib.hid j3
    have hzY : w0 ≤ YY.heap.size := by have := j3.size; omega
    obtain ⟨bw, hbw⟩ : ∃ bw, bw = V.heap.size := ⟨_, rfl⟩
    simp only [← hbw] at f0 f1 f2 q1 ⊢
    clear hYY N1 N2 j1 j2 j3 hinv hVl hV1 hbw
    gi_wp2_with (first | ((refine wpListIn_appW rfl (.tmp 8) (.tmp 10) _ rfl w0 26 (.agg #[.int .i64 0, .int .i64 0, .string ⟨#[]⟩]) 3 32 Try.underlying22 infoWk rfl (by omega) (by omega) _ _ _ rfl (HJ2.out.alloc _) YY.heap.size (wkCells x) rfl rfl (news_wk _ x _) (one_wk _) (by omega) (by simp; omega) ?_; intro ga cap1 W8 hg1 hown1 hgrow1 hor1; have hb8 := (HJ1.out.alloc (.cells #[.int .i64 x.kind, .int .i64 x.at_, .string x.word] 26)).same (hgrow1.block B (HJ1.out.alloc _).lt (fun e => (HJ1.out.ne_own HJ2.out (by decide)) e.symm)); have e8 := hb8.cell 0; have f8 := hb8.free 0; have q8 := hb8.lt)) | fail)
    have hsz8 : YY.heap.size ≤ W8.heap.size := by have := hgrow1.size; simp at this; omega
    have hsame : ∀ r, r < YY.heap.size → r ≠ B → (Value.slice X (us.length + pre.length) cx).ownBlock ≠ some r → (W8.setCell ⟨B, 0, none⟩ (.slice (some ⟨ga, 0, none⟩) (us.length + pre.length + 1) cap1)).heap[r]? = YY.heap[r]? := fun r hr h1 h2 =>
      (Below.heap_setCell W8 ⟨B, 0, none⟩ _ r h1).trans ((hgrow1.block r (by simp; omega) (fun e => h2 e.symm)).trans (Below.heap_alloc YY _ r hr))
    have hwork : ∀ r, (Value.slice X (us.length + pre.length) cx).ownBlock = some r → w0 ≤ r ∧ ∃ cs, Has YY r 26 cs := fun r hr => ⟨(HJ2.out.lt r hr).1, own_cellsW HJ2.out hr⟩
    have hnot : ∀ r, (r < w0 ∨ ∀ cs fr, YY.heap[r]? ≠ some (.cells cs 26 fr)) → (Value.slice X (us.length + pre.length) cx).ownBlock ≠ some r := fun r hx e => by
      obtain ⟨h1, cs, h2⟩ := hwork r e
      rcases hx with hx | hx
      · omega
      · exact hx _ _ h2
    have e9 : us.length + (pre ++ [x]).length = us.length + pre.length + 1 := by rw [List.length_append]; rfl
    refine ⟨⟨by simp [World.setCell]; exact hsz8, fun k o hk hc => ?_⟩, ⟨by simp [World.setCell]; exact hsz8, fun r h1 h2 h3 h4 => hsame r h1 h3 (hnot r h4), fun o h1 h2 => ⟨_, hb8.set 0 (.slice (some ⟨ga, 0, none⟩) (us.length + pre.length + 1) cap1), rfl⟩⟩, ⟨some ⟨ga, 0, none⟩, cap1, ?_, ?_⟩, ⟨hgrow1.os.trans HJ3.out.os, hgrow1.tape.trans HJ3.out.tape, hgrow1.output.trans HJ3.out.output, by simp [World.setCell]; have := HJ3.out.size; omega, fun r h1 h2 h3 => ?_⟩⟩
    · have hk2 := (Array.getElem?_eq_some_iff.1 hk).1
      refine (hsame k hk2 (fun e => ?_) (hnot k (.inr (fun cs fr e => by rw [hk] at e; injection e with e; rw [e] at hc; cases hc)))).trans hk
      have := HJ1.out
      unfold Has at this
      rw [e, this] at hk; injection hk with hk; rw [← hk] at hc; cases hc
    · rw [e9]; exact hb8.set 0 _
    · rw [e9, ← List.append_assoc, wksCells_app]
      exact (But.set B W8 0 (.slice (some ⟨ga, 0, none⟩) (us.length + pre.length + 1) cap1)).own hown1 (hb8.ne_own hown1 (by decide))
    · have e1 := HJ3.out.same r h1 h2 h3
      exact (hsame r (Nat.lt_of_lt_of_le h1 HJ3.out.size) h2 (hnot r (h3.imp id (fun hn cs fr => by rw [e1]; exact hn cs fr)))).trans e1
end Go.Proofs.Ytnjenggijmbhcaa
/-
  Plain law of undo.plan: the works that it undoes and those that it does again make valid sheets.
-/
namespace Go.Proofs.Ytnjenggijmbhcaa
open Go.RowKit
theorem bkN_snd (L : List Nat) : (bkN L L.length).map (fun x => x.2) = L.reverse := by
  unfold bkN
  rw [List.map_map]
  apply List.ext_getElem?
  intro k
  rw [List.getElem?_map]
  rcases Nat.lt_or_ge k L.length with h | h
  · rw [List.getElem?_range h, List.getElem?_reverse h]
    have h2 : L.length - 1 - k < L.length := by omega
    simp [List.getD_eq_getElem?_getD, List.getElem?_eq_getElem h2]
  · rw [List.getElem?_eq_none (by simpa using h), List.getElem?_eq_none (by simpa using h)]; rfl
theorem alN_snd (L : List Nat) : (alN L L.length).map (fun x => x.2) = L := by
  unfold alN
  rw [List.map_map]
  apply List.ext_getElem?
  intro k
  rw [List.getElem?_map]
  rcases Nat.lt_or_ge k L.length with h | h
  · rw [List.getElem?_range h]
    simp [List.getD_eq_getElem?_getD, List.getElem?_eq_getElem h]
  · rw [List.getElem?_eq_none (by simpa using h), List.getElem?_eq_none h]; rfl
theorem bkN_works (ws : List Wk) (L : List Nat) : (bkN L L.length).map (fun x => wkA ws x.2) = L.reverse.map (wkA ws) := by
  rw [← bkN_snd, List.map_map]; rfl
theorem alN_works (ws : List Wk) (L : List Nat) : (alN L L.length).map (fun x => wkA ws x.2) = L.map (wkA ws) := by
  conv => rhs; rw [← alN_snd L]
  rw [List.map_map]; rfl
theorem mem_bkN {L : List Nat} {x : Nat × Nat} (h : x ∈ bkN L L.length) : x.2 ∈ L := by
  have : x.2 ∈ (bkN L L.length).map (fun x => x.2) := List.mem_map.2 ⟨x, h, rfl⟩
  rw [bkN_snd] at this
  exact List.mem_reverse.1 this
theorem mem_alN {L : List Nat} {x : Nat × Nat} (h : x ∈ alN L L.length) : x.2 ∈ L := by
  have : x.2 ∈ (alN L L.length).map (fun x => x.2) := List.mem_map.2 ⟨x, h, rfl⟩
  rwa [alN_snd] at this
/-- what is undone, the last one first -/
def planU (ws : List Wk) (L : List Nat) : List Wk := L.reverse.map fun k => undoW (wkA ws k)
/-- what is done again -/
def planR (by_ : Wk) (ws : List Wk) (L : List Nat) : List Wk := by_ :: L.tail.map (wkA ws)
theorem wkA_mem {ws : List Wk} {k : Nat} (h : k < ws.length) : wkA ws k ∈ ws := by
  obtain ⟨x, hx⟩ := get_of_lt h
  unfold wkA; rw [hx]; exact List.mem_of_getElem? hx
theorem SOk.subP {p : Int} {ws us : List Wk} (h : SOk p ws) (hs : ∀ x ∈ us, x ∈ ws) (hl : us.length ≤ 400) : SOk p us :=
  ⟨h.le, h.ge, hl, fun x hx => h.short x (hs x hx), fun x hx => h.good x (hs x hx), fun x hx => h.form x (hs x hx)⟩
theorem planU_len (ws : List Wk) (L : List Nat) : (planU ws L).length = L.length := by unfold planU; rw [List.length_map, List.length_reverse]
theorem planR_len (by_ : Wk) (ws : List Wk) {L : List Nat} (h : 0 < L.length) : (planR by_ ws L).length = L.length := by unfold planR; rw [List.length_cons, List.length_map, List.length_tail]; omega
theorem planU_ok {p : Int} {ws : List Wk} {L : List Nat} (h : SOk p ws) (hL : ∀ k ∈ L, k < ws.length) (hl : L.length ≤ 400) : SOk p (planU ws L) := by
  have h1 : SOk p (L.reverse.map (wkA ws)) := h.subP (fun x hx => by
    obtain ⟨k, hk, rfl⟩ := List.mem_map.1 hx
    exact wkA_mem (hL k (List.mem_reverse.1 hk))) (by rw [List.length_map, List.length_reverse]; exact hl)
  have h2 := h1.undo
  rw [List.map_map] at h2
  exact h2
theorem planR_ok {p : Int} {by_ : Wk} {ws : List Wk} {L : List Nat} (h : SOk p ws) (hb : SOk p [by_]) (hL : ∀ k ∈ L, k < ws.length) (hp : 0 < L.length) (hl : L.length ≤ 400) : SOk p (planR by_ ws L) := by
  have hm : ∀ x ∈ planR by_ ws L, x = by_ ∨ x ∈ ws := fun x hx => by
    unfold planR at hx
    rcases List.mem_cons.1 hx with e | e
    · exact .inl e
    · obtain ⟨k, hk, rfl⟩ := List.mem_map.1 e
      exact .inr (wkA_mem (hL k (List.mem_of_mem_tail hk)))
  refine ⟨h.le, h.ge, by rw [planR_len _ _ hp]; exact hl, fun x hx => ?_, fun x hx => ?_, fun x hx => ?_⟩
  · rcases hm x hx with e | e
    · subst e; exact hb.short _ (by simp)
    · exact h.short x e
  · rcases hm x hx with e | e
    · subst e; exact hb.good _ (by simp)
    · exact h.good x e
  · rcases hm x hx with e | e
    · subst e; exact hb.form _ (by simp)
    · exact h.form x e
end Go.Proofs.Ytnjenggijmbhcaa
