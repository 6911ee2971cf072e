/-
  Contract of cloth.Word.
-/
import Derived.Test.YtpljaoagiaijiaaV9
import Derived.Test.YtpljaoagiaijiaaV10
import Derived.Test.YtpljaoagiaijiaaV11
import Derived.Test.YtpljaoagiaijiaaV14
import Derived.Test.YtpljaoagiaijiaaV15
namespace Go.Proofs.Ytpljaoagiaijiaa
open Go.RowKit
attribute [local go_sem] Oper.semAt_some
theorem met_getD {xs : List Q4} {L : List Int} {k : Nat} {x : Q4} (h : xs[k]? = some x) : met xs L k = (x, (lineTo xs L k).getD x.b.toNat 0, (lineTo xs L k).getD (x.b.toNat + 1) 0) := by
  unfold met
  have e1 : xs.getD k ⟨0, 0, 0, 0⟩ = x := by rw [List.getD_eq_getElem?_getD, h]; rfl
  rw [e1]
/-- the crossings of a valid cloth are of the threads that lie in their places -/
theorem met_ok {T : Nat} {xs ps : List Q4} (hE : ckE (T : Int) xs ps = 0) {k : Nat} (hk : k < xs.length) : metOk (met xs (lineL 48) k) = true := by
  obtain ⟨g1, g2, g3, g4, g5⟩ := ckE_ends hE
  have hb : ∀ x ∈ xs, 0 ≤ x.b ∧ x.b ≤ (T : Int) - 2 := fun x hx => by have := g4 x hx; unfold okC at this; simp at this; omega
  have hx := List.getElem?_eq_getElem hk
  unfold endsOk at g5
  rw [Int.toNat_natCast] at g5
  have hk1 : ∃ L, endsTo xs (lineL T) (k + 1) = some L := by
    cases h : endsTo xs (lineL T) (k + 1) with
    | some L => exact ⟨L, rfl⟩
    | none => rw [endsTo_none h _ (by omega)] at g5; cases g5
  have hk0 : ∃ L, endsTo xs (lineL T) k = some L := by
    cases h : endsTo xs (lineL T) k with
    | some L => exact ⟨L, rfl⟩
    | none => rw [endsTo_none h _ (by omega)] at g5; cases g5
  obtain ⟨L1, h1⟩ := hk1
  obtain ⟨L0, h0⟩ := hk0
  have hL0 := ends_line (by omega) hb k (by omega) L0 h0
  obtain ⟨b0, b1⟩ := hb _ (mem_of_get hx)
  obtain ⟨t, ht⟩ := Int.eq_ofNat_of_zero_le b0
  obtain ⟨va, hva⟩ := get_of_lt (l := lineTo xs (lineL 48) k) (k := t) (by rw [lineTo_len, lineL_len]; omega)
  obtain ⟨vb, hvb⟩ := get_of_lt (l := lineTo xs (lineL 48) k) (k := t + 1) (by rw [lineTo_len, lineL_len]; omega)
  have hm : met xs (lineL 48) k = (xs[k], va, vb) := by
    rw [met_getD hx, ht, show ((t : Nat) : Int).toNat = t by simp, List.getD_eq_getElem?_getD, List.getD_eq_getElem?_getD, hva, hvb]; rfl
  rw [hm]
  rw [endsTo_succ h0 hx, hL0, endStep_get (i := t) (by rw [ht]; simp) (by rw [List.getElem?_take, if_pos (by omega)]; exact hva) (by rw [List.getElem?_take, if_pos (by omega)]; exact hvb)] at h1
  split at h1
  · rename_i hok; exact hok
  · cases h1
def wv (p : Met) : Int := if p.2.1 = p.1.d then -(p.1.b + 1) else p.1.b + 1
theorem word_came {T : Nat} {xs ps : List Q4} (hE : ckE (T : Int) xs ps = 0) : ∀ k, k ≤ xs.length → (came xs (lineL 48) k).map wv = wordTo xs k
  | 0, _ => rfl
  | k + 1, hk => by
    obtain ⟨x, hx⟩ := get_of_lt (l := xs) (k := k) (by omega)
    rw [came_succ, List.map_append, word_came hE k (by omega), wordTo_succ hx]
    congr 1
    have hm := met_ok hE (k := k) (by omega)
    have hne := cross_ne hE x (mem_of_get hx)
    rw [met_getD hx] at hm ⊢
    unfold metOk endOk at hm
    simp only [Bool.or_eq_true, Bool.and_eq_true, beq_iff_eq] at hm
    show [wv _] = _
    unfold wv
    dsimp only
    generalize (lineTo xs (lineL 48) k).getD x.b.toNat 0 = va at *
    rcases hm with ⟨e1, _⟩ | ⟨_, e1⟩
    · rw [if_neg (by rw [e1]; exact hne), if_pos e1]
    · rw [if_pos e1, if_neg (by rw [e1]; exact Ne.symm hne)]
theorem wpListIn_app {l n0 : Nat} {P : Program} {w : World} {ops : Array Oper} {rest : List Oper} {o : Oper} {a : Act} {Q : Exit → Act → World → Prop} (hgd : o.guard = none) (s x : Operand) (t : TypeId)
    (ho : o.op = .call { callee := .builtin .append, args := #[s, x], argTypes := #[t, t] })
    (base : Nat) (e : TypeId) (z : Value) (size bytes : Nat) (ht : P.underlying t = some (.slice e)) (hinf : (P.info? e).map (fun i => (i.zero, i.size, i.bytes)) = some (some z, size, bytes))
    (hzs : z.cells.size = size) (hsz : 0 < size) (hby : bytes ≤ 100)
    (v : Value) (n : Nat) (xs : List Value) (hs : a.eval s = v) (hown : w.ownsRow base e size v n xs)
    (b : Nat) (news : List Value) (hx : a.eval x = .slice (some ⟨b, 0, none⟩) 1 1) (hl : news.length = size) (hnews : ∀ j u, news[j]? = some u → w.cell? ⟨b, j, none⟩ = some u) (h1 : ∀ u ∈ news, u.oneCell' = true)
    (hn : n ≤ 1000000000) (hbase : base ≤ w.heap.size)
    (h : ∀ g cap w', base ≤ g → w'.ownsRow base e size (.slice (some ⟨g, 0, none⟩) (n + 1) cap) (n + 1) (xs ++ news) → w.grownBy w' v.ownBlock → (some g = v.ownBlock ∨ g = w.heap.size) →
      wpListIn (Fence.wide.inRound l) n0 P ops Q rest (a.put o.dst (.slice (some ⟨g, 0, none⟩) (n + 1) cap)) w') : wpListIn (Fence.wide.inRound l) n0 P ops Q (o :: rest) a w := by
  obtain ⟨i, hi, hz, hsize, hb⟩ := info_parts hinf
  refine wpListIn_plain hgd fun K hK => ?_
  have hmul : (n + 1) * bytes ≤ 140737488355328 := by
    have : (n + 1) * bytes ≤ 1000000001 * 100 := Nat.mul_le_mul (by omega) hby
    omega
  obtain ⟨v', w', hrun, h2, h3, h4, h5⟩ := run_append_own_at (P := P) w base t o.type e i z size bytes ht hi hz hsize hb hzs hsz v n xs hown ⟨b, 0, none⟩ 1 1 news (by rw [hl, Nat.one_mul]) (fun j u hu => by
    have := hnews j u hu
    have hadd : (⟨b, 0, none⟩ : Addr).add j = ⟨b, j, none⟩ := by unfold Addr.add; split <;> simp_all
    rw [hadd]; exact this) h1 (by simp only [maxLen]; omega) hmul hbase
  have hnn : v' ≠ .slice none 0 0 := fun e => by have := h4.1 e; omega
  rcases h2.2 with ⟨rfl, _⟩ | ⟨g, cap, cur, rfl, hg, _⟩
  · exact absurd rfl hnn
  · refine ⟨fun _ _ => trivial, ?_⟩
    rw [Fence.inRound_round, Oper.semAt_some l _ _ (by rw [ho]; intro c hc; cases hc)]
    unfold execOp
    simp only [ho, resolve, invoke, builtin, Sem.run_bind, Sem.run_pure, Result.andThen_ok, List.map_toArray, List.map_cons, List.map_nil, hs, hx, hrun]
    refine hK _ _ (h g cap w' hg h2 h3 ?_)
    rcases h5 with h5 | h5
    · left; rw [← h5]; rfl
    · right; simpa [Value.ownBlock] using h5
theorem postM_mark2 {P : Program} {fn : Func} {R : Ending → World → Prop} {a : Act} {w : World} {t u : Tmp} {D : Nat} {x y : Value} (hres : fn.results = #[.tmp t, .tmp u])
    (hx : a.tmps.getD t undef = x) (hy : a.tmps.getD u undef = y) (hd : a.defers = [{ target := .collected D, args := #[] }]) (hD : w.heap[D]? = some (.deferred (some [])))
    (hR : R (.returned (.tuple #[x, y])) (w.putObj D (.deferred none))) : bodyPostM Fence.wide 0 P fn R .ret a w := by
  show LeavesInM Fence.wide 0 P fn a.tmps R a.defers .returning w
  rw [hd]
  refine ⟨by simp, .inl ⟨_, _, rfl, run_takeDeferred hD, ?_⟩⟩
  exact ⟨.tuple #[x, y], by rw [results_tmp2 hres, hx, hy], hR⟩
/-- what holds between two rounds of Word -/
structure WdI (w0 b0 b5 hi : Nat) (w : World) (pre : List Met) (W : World) : Prop where
  row : ∃ (X : Option Addr) (c : Nat), Has W b5 35 [.slice X pre.length c] ∧ W.ownsRow w0 3 1 (.slice X pre.length c) pre.length ((pre.map wv).map vInt) ∧ ∀ r, (Value.slice X pre.length c).ownBlock = some r → r < hi
  below : Below b0 w W
  top : w0 ≤ hi
theorem Has.not_dead {W : World} {g : Nat} {t : TypeId} {cs : List Value} (h : Has W g t cs) {row : Option Nat} (hr : ∀ r, row = some r → ∃ o : Obj, W.heap[r]? = some o ∧ o.isCells = false) : some g ≠ row := fun e => by
  obtain ⟨o, h1, h2⟩ := hr g e.symm
  unfold Has at h
  rw [h] at h1
  injection h1 with h1
  rw [← h1] at h2; cases h2
theorem own_cells {W : World} {base : Nat} {e : TypeId} {size n : Nat} {v : Value} {xs : List Value} (h : W.ownsRow base e size v n xs) {g : Nat} (hg : v.ownBlock = some g) : ∃ cs, Has W g e cs := by
  rcases h.2 with ⟨he, _⟩ | ⟨g', cap, cur, he, _, hh, _⟩
  · rw [he] at hg; cases hg
  · rw [he] at hg
    have : g' = g := by simpa [Value.ownBlock] using hg
    subst this
    exact ⟨cur.toList, by unfold Has; rw [hh]⟩
theorem Has.ne_def {W : World} {g D : Nat} {t : TypeId} {cs : List Value} (h : Has W g t cs) {o : Obj} (hD : W.heap[D]? = some o) (ho : o.isCells = false) : g ≠ D := fun e => by
  subst e
  unfold Has at h
  rw [h] at hD
  injection hD with hD
  rw [← hD] at ho; cases ho
theorem wdI_own {B w0 b0 b5 hi : Nat} {w : World} (hb : b0 ≤ B) (hw : b0 ≤ w.heap.size) : OwnFrom B (fun (pre : List Met) W => WdI w0 b0 b5 hi w pre W) := fun pre W W' row hs hg hr => by
  obtain ⟨⟨X, c, h1, h2, h3⟩, h4, h5⟩ := hs
  refine ⟨⟨X, c, h1.same (hg.block _ h1.lt (h1.not_dead (fun r e => (hr r e).2))), own_same h2 (fun g hgv => ?_), h3⟩, ?_, h5⟩
  · obtain ⟨x, hx⟩ := own_cells h2 hgv
    exact hg.block _ hx.lt (hx.not_dead (fun r e => (hr r e).2))
  · refine ⟨hg.os.trans h4.os, hg.tape.trans h4.tape, hg.output.trans h4.output, Nat.le_trans h4.size hg.size, fun i hi => (hg.block i (Nat.lt_of_lt_of_le (Nat.lt_of_lt_of_le hi hw) h4.size) (fun e => ?_)).trans (h4.block i hi)⟩
    have := (hr i e.symm).1; omega
theorem WdI.keepC {w0 b0 b5 hi gL : Nat} {w V V' : World} {pre : List Met} (h : WdI w0 b0 b5 hi w pre V) (k : KeepC gL V V') (h1 : gL ≠ b5) (h2 : gL < w0) (h3 : b0 ≤ gL) (hw : b0 ≤ w.heap.size) : WdI w0 b0 b5 hi w pre V' := by
  obtain ⟨⟨X, c, a1, a2, a3⟩, a4, a5⟩ := h
  refine ⟨⟨X, c, a1.same (k.same _ a1.lt (fun e => h1 e.symm)), own_same a2 (fun g hg => k.same _ (a2.lt g hg).2 (fun e => by have := (a2.lt g hg).1; omega)), a3⟩, ?_, a5⟩
  exact ⟨k.os.trans a4.os, k.tape.trans a4.tape, k.output.trans a4.output, Nat.le_trans a4.size k.size, fun r hr => (k.same r (Nat.lt_of_lt_of_le (Nat.lt_of_lt_of_le hr hw) a4.size) (by omega)).trans (a4.block r hr)⟩
set_option maxRecDepth 100000 in
set_option maxHeartbeats 8000000 in
theorem word32 (t : Int) (A B : Option Addr) (n c m d : Nat) (xs ps : List Q4) (w : World) (hn : n ≤ 9223372036854775807) (hm : m ≤ 9223372036854775807) (hx : RdQ w w.heap.size A xs) (hp : RdQ w w.heap.size B ps) (hl : xs.length = n) (hl' : ps.length = m) (ht0 : -9223372036854775808 ≤ t) :
    Calls Try.prog 32 #[vCloth t A n c B m d] w fun e w' => ∃ A' n' c', e = .returned (.tuple #[.slice A' n' c', .int .i64 (ckE t xs ps)]) ∧ RdI w' w'.heap.size A' (wordR t xs ps) ∧ (wordR t xs ps).length = n' ∧ Below w.heap.size w w' := by
  have C1 := Lib.hid (fun (W : World) (hb : Below w.heap.size w W) => check42 t A B n c m d xs ps W hn hm (hx.up hb) (hp.up hb) hl hl' ht0)
  have K0 : Has (w.alloc (.cells #[.int .i64 t, .slice A n c, .slice B m d] 30)) w.heap.size 30 [.int .i64 t, .slice A n c, .slice B m d] := Has.new rfl
  by_cases hE : ckE t xs ps = 0
  case neg =>
    have hR : wordR t xs ps = [] := by unfold wordR; rw [if_neg hE]
    rw [hR]
    generalize ckE t xs ps = r at *
    have hr : (r != 0) = true := by simpa using hE
    clear hE hR hx hp hl hl'
    refine (callsIn_wide (n := 0)).1 (callsIn_of_wp_marks Try.func32 rfl trivial ?_)
    simp only [Try.ntmps32, List.size_toArray, List.length_cons, List.length_nil, Nat.reduceAdd, Nat.reduceSub, Array.replicate_succ, Array.replicate_zero, List.push_toArray, List.append_toArray, List.nil_append, List.cons_append]
    refine wpIn_wide.2 ?_
    go_wp2_with fail
    refine (C1.out _ (by go_grown)).mono ?_
    rintro e w1 ⟨rfl, hb1⟩
    have B1 : Below w.heap.size w w1 := bvia (show Below w.heap.size w _ by go_grown) hb1
    clear hb1 C1
    go_wp2
    refine ⟨_, results_tmp2 rfl _ _ _, ?_⟩
    exact ⟨none, 0, 0, rfl, Rd1.nil _ _ _ _, rfl, B1⟩
  obtain ⟨g1, g2, g3, g4, g5⟩ := ckE_ends hE
  have hR : wordR t xs ps = wordTo xs n := by unfold wordR; rw [if_pos hE, hl]
  rw [hE] at C1
  obtain ⟨T, rfl⟩ := Int.eq_ofNat_of_zero_le (show 0 ≤ t by omega)
  have HWC := Lib.hid (word_came hE)
  rw [hE, hR]
  have hn2 : n ≤ 20000 := by omega
  have HOK : Hid (∀ x ∈ xs, 0 ≤ x.b ∧ x.b ≤ 46) := fun x hx => by have := g4 x hx; unfold okC at this; simp at this; omega
  have HX := Lib.hid hx
  have HL := Lib.hid hl
  clear hx hp hl hl' hE g3 g4 g5 hR
  refine (callsIn_wide (n := 0)).1 (callsIn_of_wp_marks Try.func32 rfl trivial ?_)
  simp only [Try.ntmps32, List.size_toArray, List.length_cons, List.length_nil, Nat.reduceAdd, Nat.reduceSub, Array.replicate_succ, Array.replicate_zero, List.push_toArray, List.append_toArray, List.nil_append, List.cons_append]
  refine wpIn_wide.2 ?_
  go_wp2_with fail
  refine (C1.out _ (by go_grown)).mono ?_
  rintro e w1 ⟨rfl, hb1⟩
  have B1 : Below w.heap.size w w1 := bvia (show Below w.heap.size w _ by go_grown) hb1
  have HB := Lib.hid (K0.below hb1 K0.lt)
  have q := HB.out.lt
  clear K0 hb1 C1
  go_wp2_with fail
  refine (begun57 _).mono ?_
  rintro e w2 ⟨rfl, hb2⟩
  have hlen : ((lineL 48).map vInt).length = 48 := by simp [lineL_len]
  have hinfo : (Try.prog.info? 74).map (·.size) = some 48 := by kernel_rfl
  have K5 : Has (w1.alloc (.cells #[.slice none 0 0] 35)) w1.heap.size 35 [.slice none 0 0] := Has.new rfl
  have HB1 := Lib.hid ((HB.out.alloc (.cells #[.slice none 0 0] 35)).below hb2 (by simp; omega))
  have H51 := Lib.hid (K5.below hb2 K5.lt)
  have B2 : Below w.heap.size w w2 := bvia (bvia B1 (show Below w1.heap.size w1 _ by go_grown)) hb2
  have hz1 : w1.heap.size < w2.heap.size := H51.out.lt
  obtain ⟨b5, hb5⟩ : ∃ g, g = w1.heap.size := ⟨_, rfl⟩
  rw [← hb5] at H51 hz1 ⊢
  have hwb5 : w.heap.size < b5 := by omega
  clear hb5 K5 HB hb2 B1 q
  have a0 : w2.cell? ⟨w.heap.size, 0, none⟩ = some (.int .i64 (T : Int)) := HB1.out.cell 0
  have a1 : w2.cell? ⟨w.heap.size, 1, none⟩ = some (.slice A n c) := HB1.out.cell 1
  have a2 : w2.cell? ⟨w.heap.size, 2, none⟩ = some (.slice B m d) := HB1.out.cell 2
  have q := HB1.out.lt
  go_wp2_with (first
    | (refine wpList_store_has rfl 74 (.tmp 6) (.tmp 15) rfl w2.heap.size ((lineL 48).map vInt) rfl rfl 74 _ (Has.new rfl) (by rw [hlen, hinfo]) (by rw [hlen]; rfl) (by simp [lineL]; intros; rfl) ?_
       intro w3 hG3 hBut
       have hb3 : Below w2.heap.size w2 w3 := ((Below.refl _ w2).alloc (Nat.le_refl _) _).trans (hBut.below (Nat.le_refl _) (by simp))
       have b0 := (hb3.cell (p := ⟨w.heap.size, 0, none⟩) q).trans a0
       have b1 := (hb3.cell (p := ⟨w.heap.size, 1, none⟩) q).trans a1
       have b2 := (hb3.cell (p := ⟨w.heap.size, 2, none⟩) q).trans a2
       have H53 := Lib.hid (H51.out.below hb3 hz1)
       have HG3 := Lib.hid hG3
       clear hBut a0 a1 a2 hG3)
    | (go_at_call 52; refine (crossings58 _ _ (T : Int) A B n c m d _ rfl).mono ?_; rintro e w4 ⟨rfl, hs4, c1, c2, hb4⟩))
  have hs3 : w2.heap.size < w3.heap.size := HG3.out.lt
  have C1 : w4.cell? ⟨w3.heap.size, 1, none⟩ = some (.slice A n c) := c1.cell 1
  have C2 : w4.cell? ⟨w3.heap.size + 1, 0, none⟩ = some (.pointer (some ⟨w2.heap.size, 0, none⟩)) := c2.cell 0
  have H54 := H53.out.below hb4 H53.out.lt
  have HG4 := HG3.out.below hb4 hs3
  have B4 := bvia (bvia B2 hb3) hb4
  obtain ⟨gL, hgL⟩ : ∃ g, g = w2.heap.size := ⟨_, rfl⟩
  rw [← hgL] at C2 HG4 hz1
  have hgl4 : gL < w3.heap.size := by omega
  clear c1 c2 H53 HG3 hb3 hb4 b0 b1 b2 H51 HB1 B2 hlen hinfo hgL q hs3
  refine wpIn_wide.1 (range_lawF (n := 0) (gf := 67) (lb := #[.pointer (some ⟨w3.heap.size, 0, none⟩), .pointer (some ⟨w3.heap.size + 1, 0, none⟩)]) rfl Try.call67 encM (fun _ => rfl) (fun hi pre W => WdI w4.heap.size w.heap.size b5 hi w pre W) (fun ys => ys = came xs (lineL 48) n) (fun pre x => ∃ k, k < n ∧ pre = came xs (lineL 48) k ∧ x = met xs (lineL 48) k) b5 (fun _ => wdI_own (by omega) (Nat.le_refl _)) ⟨⟨none, 0, H54, World.ownsRow_nil _ _ _ _, fun r hr => by cases hr⟩, B4, Nat.le_refl _⟩ ?iter ?rnd ?done)
  case iter =>
    intro l dd r0 W hd1 hd2 hKB hMid hY
    have hks := hKB.1
    have hlW := (Array.getElem?_eq_some_iff.1 hMid.rec_).1
    have hxW : RdQ W w.heap.size A xs := HX.out.below hMid.inv.below (Nat.le_refl _)
    have hGW : Has W gL 74 ((lineL 48).map vInt) := HG4.same (hKB.2 _ (by omega) (by omega))
    have g1' := (cell_same (a := ⟨w3.heap.size, 1, none⟩) (hKB.2 w3.heap.size (by omega) (by omega))).trans C1
    have g2' := (cell_same (a := ⟨w3.heap.size + 1, 0, none⟩) (hKB.2 (w3.heap.size + 1) (by omega) (by omega))).trans C2
    refine callsIn_wide.2 ((iterF (fun hi pre W => WdI w4.heap.size w.heap.size b5 hi w pre W) l dd b5 r0 w3.heap.size (w3.heap.size + 1) gL n c w4.heap.size A xs (lineL 48) W ?_ hlW (by omega) (by omega) (by omega) (by omega) g1' g2' hn2 (by simp [lineL_len]) w.heap.size hxW (by omega) (by omega) (by omega) hks (by omega) (by omega) HL.out HOK.out hGW hMid ?_ (by omega) (by omega) (by omega)).mono ?_)
    · exact fun hi pre V V' h hk _ => h.keepC hk (by omega) (by omega) (by omega) (Nat.le_refl _)
    · exact fun hi k W1 hk htop hmid => hY hi _ _ W1 ⟨k, hk, rfl, rfl⟩ htop hmid
    · rintro e W' ⟨hv, hi, h⟩
      exact ⟨hv, hi, _, rfl, h⟩
  case done =>
    rintro D hi xs' W hD rfl ⟨⟨X, cx, j1, j2, j3⟩, j4, _⟩ hDf
    have e0 : W.cell? ⟨b5, 0, none⟩ = some (.slice X (came xs (lineL 48) n).length cx) := j1.cell 0
    rw [HWC.out n (by rw [HL.out]; exact Nat.le_refl _), came_len] at j2
    rw [came_len] at e0
    have HJ := Lib.hid j2
    have q5 := j1.lt
    clear j1 j2 j3
    go_wp2
    refine postM_mark2 rfl rfl rfl rfl hDf ?_
    refine ⟨X, n, cx, rfl, ?_, wordTo_len n (by rw [HL.out]; exact Nat.le_refl _), below_put j4 (by omega) _⟩
    exact own_rd1 (own_same HJ.out fun g hg => World.putObj_heap_other (by obtain ⟨_, hc⟩ := own_cells HJ.out hg; exact hc.ne_def hDf rfl))
  case rnd =>
    rintro hi l pre x0 W o ⟨k, hk, hpre, hx0⟩ hl htop ⟨⟨X, cx, j1, j2, j3⟩, j4, j5⟩ hWl ho
    have hpl : pre.length = k := by rw [hpre, came_len]
    obtain ⟨x, hxk⟩ := get_of_lt (l := xs) (k := k) (by rw [HL.out]; exact hk)
    obtain ⟨xb0, xb1⟩ := HOK.out x (mem_of_get hxk)
    rw [met_getD hxk] at hx0
    have hll := (Array.getElem?_eq_some_iff.1 hWl).1
    have hsz := j4.size
    have hsz2 := j1.lt
    have HPL := Lib.hid hpl
    generalize (lineTo xs (lineL 48) k).getD x.b.toNat 0 = va at *
    generalize (lineTo xs (lineL 48) k).getD (x.b.toNat + 1) 0 = vb at *
    subst hx0
    clear hxk hpre hpl
    have HJ2 := Lib.hid j2
    clear j2
    dsimp only [encM]
    gi_wp2
    refine ⟨(KeepsOthers.alloc _ _).trans (KeepsOthers.alloc _ _), ?_⟩
    have X1 : Has ((W.alloc (.cells #[.int .i64 x.a, .int .i64 x.b, .int .i64 x.c, .int .i64 x.d] 70)).alloc (.cells #[.int .i64 va, .int .i64 vb] 54)) W.heap.size 70 [.int .i64 x.a, .int .i64 x.b, .int .i64 x.c, .int .i64 x.d] := (Has.new rfl).alloc _
    have X2 : Has ((W.alloc (.cells #[.int .i64 x.a, .int .i64 x.b, .int .i64 x.c, .int .i64 x.d] 70)).alloc (.cells #[.int .i64 va, .int .i64 vb] 54)) (W.heap.size + 1) 54 [.int .i64 va, .int .i64 vb] := Has.new2 rfl
    have X3 : Below W.heap.size W ((W.alloc (.cells #[.int .i64 x.a, .int .i64 x.b, .int .i64 x.c, .int .i64 x.d] 70)).alloc (.cells #[.int .i64 va, .int .i64 vb] 54)) := by go_grown
    generalize ((W.alloc (.cells #[.int .i64 x.a, .int .i64 x.b, .int .i64 x.c, .int .i64 x.d] 70)).alloc (.cells #[.int .i64 va, .int .i64 vb] 54)) = V at *
    refine ⟨KeepF.of_below _ _ _ _ X3, fun o' ho' => ?_⟩
    have X4 := j1.below X3 hsz2
    have X5 := bvia' j4 (Nat.le_refl _) X3
    have X6 := own_below HJ2.out X3
    have hV := X2.lt
    have hVl : V.heap[l]? = some o := (X3.block l hll).trans hWl
    have Y1 := X1.same (w' := V.putObj l o') (World.putObj_heap_other (by omega))
    have Y2 := X2.same (w' := V.putObj l o') (World.putObj_heap_other (by omega))
    have Y4 := X4.same (w' := V.putObj l o') (World.putObj_heap_other (by omega))
    have Y5 := below_put X5 (D := l) (by omega) o'
    have Y6 := own_same (w' := V.putObj l o') X6 (fun g hg => World.putObj_heap_other (by obtain ⟨_, hc⟩ := own_cells X6 hg; exact hc.ne_def hVl ho))
    have hYl : (V.putObj l o').heap[l]? = some o' := World.putObj_heap_same (by have := X3.size; omega)
    have hYs : V.heap.size = (V.putObj l o').heap.size := by simp [World.putObj]
    have hWV : W.heap.size + 1 < (V.putObj l o').heap.size := by omega
    clear X1 X2 X3 X4 X5 X6 hWl ho hV hVl HJ2
    generalize V.putObj l o' = Y at *
    have y1 : Y.cell? ⟨W.heap.size, 1, none⟩ = some (.int .i64 x.b) := Y1.cell 1
    have y3 : Y.cell? ⟨W.heap.size, 3, none⟩ = some (.int .i64 x.d) := Y1.cell 3
    have z0 : Y.cell? ⟨W.heap.size + 1, 0, none⟩ = some (.int .i64 va) := Y2.cell 0
    have e0 : Y.cell? ⟨b5, 0, none⟩ = some (.slice X pre.length cx) := Y4.cell 0
    have e1 := Y4.free 0
    have HY4 := Lib.hid Y4
    have HY6 := Lib.hid Y6
    clear Y1 Y2 Y4 Y6
    obtain ⟨m1, hm1⟩ : ∃ m1, m1 = x.b + 1 := ⟨_, rfl⟩
    have i1 : IntKind.i64.wrap (x.b + 1) = m1 := by rw [hm1]; exact IntWalk.i64_in _ (by omega)
    have hm2 : 1 ≤ m1 ∧ m1 ≤ 48 := by omega
    have HM1 := Lib.hid hm1
    clear hm1
    have i7 : IntKind.i64.wrap (-m1) = -m1 := IntWalk.i64_in _ (by omega)
    have HEND : ∀ {W8 : World} (v : Int), (Y.alloc (.cells #[.int .i64 v] 3)).grownBy W8 (Value.slice X pre.length cx).ownBlock → Has W8 b5 35 [.slice X pre.length cx] := fun {W8} v hg => by
      have h1 : Has (Y.alloc (.cells #[.int .i64 v] 3)) b5 35 [.slice X pre.length cx] := HY4.out.alloc _
      exact h1.same (hg.block b5 h1.lt (fun e => HY4.out.ne_own HY6.out (by decide) e.symm))
    by_cases hac : va = x.d
    · have d1 : (va == x.d) = true := by simpa using hac
      have HAC := Lib.hid hac
      clear hac
      have HY7 := Lib.hid (HY6.out.alloc (.cells #[.int .i64 (-m1)] 3))
      gi_wp2_with (first | (refine wpListIn_app rfl (.tmp 30) (.tmp 32) _ rfl w4.heap.size 3 (.int .i64 0) 1 8 Try.underlying35 infoInt rfl (by omega) (by omega) _ _ _ rfl HY7.out Y.heap.size [vInt ((-m1))] rfl rfl (news_new _ _ _) (one_int _ _) (by have := HPL.out; omega) (by simp; omega) ?_; intro ga cap1 W8 hg1 hown1 hgrow1 hor1; have hb8 := HEND _ hgrow1; have e8 := hb8.cell 0; have f8 := hb8.free 0; have q8 := hb8.lt; have HHB := Lib.hid hb8; clear hb8) | fail)
      have hk0 : ∀ r, r < Y.heap.size → (r < w4.heap.size ∧ r ≠ b5 ∨ hi ≤ r) → (W8.setCell ⟨b5, 0, none⟩ (.slice (some ⟨ga, 0, none⟩) (pre.length + 1) cap1)).heap[r]? = Y.heap[r]? := fun r hr hx => by
        refine (Below.heap_setCell W8 ⟨b5, 0, none⟩ _ r (by show r ≠ b5; omega)).trans ((hgrow1.block r (by simp; omega) (fun e => ?_)).trans (Below.heap_alloc Y _ r hr))
        have h1 := j3 r e.symm
        have h2 := (HY6.out.lt r e.symm).1
        omega
      refine ⟨((KeepsOthers.alloc _ _).trans (KeepsOthers.of_grownBy hgrow1 (fun j o hj ho => ?_))).trans (KeepsOthers.setCell _ _ _), ⟨?_, fun r hr _ hx => hk0 r hr hx⟩, ⟨some ⟨ga, 0, none⟩, cap1, ?_, ?_, ?_⟩, ?_, ?_⟩
      · obtain ⟨_, hc⟩ := own_cells HY7.out hj
        unfold Has at hc
        rw [hc] at ho
        injection ho with ho
        rw [← ho]; rfl
      · have := hgrow1.size; simp at this ⊢; omega
      · rw [List.length_append]; exact HHB.out.set 0 _
      · rw [List.length_append, List.map_append, List.map_append]
        have hw : wv (x, va, vb) = (-m1) := by unfold wv; rw [if_pos HAC.out, HM1.out]
        rw [show (List.map wv [(x, va, vb)]) = [(-m1)] by rw [List.map_cons, List.map_nil, hw]]
        exact own_same hown1 (fun g hg => Below.heap_setCell W8 ⟨b5, 0, none⟩ _ g (by obtain ⟨_, hc⟩ := own_cells hown1 hg; show g ≠ b5; intro e; subst e; have h1 := HHB.out; unfold Has at h1 hc; rw [h1] at hc; simp at hc))
      · intro r hr
        have hr' : (Value.slice (some ⟨ga, 0, none⟩) (pre.length + 1) cap1).ownBlock = some r := by rw [← hr, List.length_append]; rfl
        have := (hown1.lt r hr').2
        simpa using this
      · exact ((Y5.alloc (by omega) _).grown hgrow1 (by simp; omega) (fun r hr => by have := (HY6.out.lt r hr).1; omega)).setCell (show w.heap.size ≤ b5 by omega) _
      · have := hgrow1.size; simp at this ⊢; omega
    · have d1 : (va == x.d) = false := by simpa using hac
      have HAC := Lib.hid hac
      clear hac
      have HY7 := Lib.hid (HY6.out.alloc (.cells #[.int .i64 m1] 3))
      gi_wp2_with (first | (refine wpListIn_app rfl (.tmp 30) (.tmp 32) _ rfl w4.heap.size 3 (.int .i64 0) 1 8 Try.underlying35 infoInt rfl (by omega) (by omega) _ _ _ rfl HY7.out Y.heap.size [vInt (m1)] rfl rfl (news_new _ _ _) (one_int _ _) (by have := HPL.out; omega) (by simp; omega) ?_; intro ga cap1 W8 hg1 hown1 hgrow1 hor1; have hb8 := HEND _ hgrow1; have e8 := hb8.cell 0; have f8 := hb8.free 0; have q8 := hb8.lt; have HHB := Lib.hid hb8; clear hb8) | fail)
      have hk0 : ∀ r, r < Y.heap.size → (r < w4.heap.size ∧ r ≠ b5 ∨ hi ≤ r) → (W8.setCell ⟨b5, 0, none⟩ (.slice (some ⟨ga, 0, none⟩) (pre.length + 1) cap1)).heap[r]? = Y.heap[r]? := fun r hr hx => by
        refine (Below.heap_setCell W8 ⟨b5, 0, none⟩ _ r (by show r ≠ b5; omega)).trans ((hgrow1.block r (by simp; omega) (fun e => ?_)).trans (Below.heap_alloc Y _ r hr))
        have h1 := j3 r e.symm
        have h2 := (HY6.out.lt r e.symm).1
        omega
      refine ⟨((KeepsOthers.alloc _ _).trans (KeepsOthers.of_grownBy hgrow1 (fun j o hj ho => ?_))).trans (KeepsOthers.setCell _ _ _), ⟨?_, fun r hr _ hx => hk0 r hr hx⟩, ⟨some ⟨ga, 0, none⟩, cap1, ?_, ?_, ?_⟩, ?_, ?_⟩
      · obtain ⟨_, hc⟩ := own_cells HY7.out hj
        unfold Has at hc
        rw [hc] at ho
        injection ho with ho
        rw [← ho]; rfl
      · have := hgrow1.size; simp at this ⊢; omega
      · rw [List.length_append]; exact HHB.out.set 0 _
      · rw [List.length_append, List.map_append, List.map_append]
        have hw : wv (x, va, vb) = m1 := by unfold wv; rw [if_neg HAC.out, HM1.out]
        rw [show (List.map wv [(x, va, vb)]) = [m1] by rw [List.map_cons, List.map_nil, hw]]
        exact own_same hown1 (fun g hg => Below.heap_setCell W8 ⟨b5, 0, none⟩ _ g (by obtain ⟨_, hc⟩ := own_cells hown1 hg; show g ≠ b5; intro e; subst e; have h1 := HHB.out; unfold Has at h1 hc; rw [h1] at hc; simp at hc))
      · intro r hr
        have hr' : (Value.slice (some ⟨ga, 0, none⟩) (pre.length + 1) cap1).ownBlock = some r := by rw [← hr, List.length_append]; rfl
        have := (hown1.lt r hr').2
        simpa using this
      · exact ((Y5.alloc (by omega) _).grown hgrow1 (by simp; omega) (fun r hr => by have := (HY6.out.lt r hr).1; omega)).setCell (show w.heap.size ≤ b5 by omega) _
      · have := hgrow1.size; simp at this ⊢; omega
end Go.Proofs.Ytpljaoagiaijiaa
/-
  Plain law of ClothPlaces: a work exchanges four places as Places says; the sets that hang together are consecutive, at the start and at the end.
-/
namespace Go.Proofs.Ytpljaoagiaijiaa
open Go.RowKit
def absI (n : Int) : Int := if n < -n then -n else n
/-- two of four places are exchanged, as a crossing says -/
def plSw (l : List Int) (n : Int) : List Int := (l.set ((absI n).toNat - 1) (l.getD ((absI n).toNat - 1 + 1) 0)).set ((absI n).toNat - 1 + 1) (l.getD ((absI n).toNat - 1) 0)
def plF (ns : List Int) : List Int := ns.foldl plSw [1, 2, 3, 4]
/-- the four places from a on lie as p says -/
structure Seg (a : Nat) (l0 l p : List Int) : Prop where
  len : l.length = 48
  len4 : p.length = 4
  at_ : ∀ k, k < 4 → ∃ v : Nat, v < 4 ∧ p[k]? = some ((v : Int) + 1) ∧ l[a + k]? = l0[a + v]?
  out : ∀ i, (i < a ∨ a + 4 ≤ i) → l[i]? = l0[i]?
theorem Seg.start {a : Nat} {l : List Int} (h : l.length = 48) : Seg a l l [1, 2, 3, 4] where
  len := h
  len4 := rfl
  at_ := fun k hk => ⟨k, hk, by match k, hk with | 0, _ => rfl | 1, _ => rfl | 2, _ => rfl | 3, _ => rfl, rfl⟩
  out := fun _ _ => rfl
theorem absI_sub {n : Int} (hn : n ≠ 0 ∧ -3 ≤ n ∧ n ≤ 3) : ∃ u : Nat, u ≤ 2 ∧ absI n = (u : Int) + 1 ∧ (absI n).toNat - 1 = u := by
  refine ⟨(absI n).toNat - 1, ?_, ?_, rfl⟩ <;> unfold absI <;> split <;> omega
theorem plSw_get {p : List Int} {n : Int} {u : Nat} (hu : (absI n).toNat - 1 = u) (h : u + 1 < p.length) (k : Nat) : (plSw p n)[k]? = p[tr u k]? := by
  obtain ⟨va, hva⟩ := get_of_lt (l := p) (k := u) (by omega)
  obtain ⟨vb, hvb⟩ := get_of_lt (l := p) (k := u + 1) h
  unfold plSw
  rw [hu, List.getD_eq_getElem?_getD, List.getD_eq_getElem?_getD, hva, hvb]
  exact set2_get hva hvb k
theorem mkX_b (l : List Int) (i : Int) (mid : Nat) (n : Int) : (mkX l i mid n).b = mkAt mid n := by unfold mkX; split <;> rfl
theorem Seg.cross {a : Nat} {l0 p : List Int} {s : Mk} (h : Seg a l0 s.l p) (ha : a + 4 ≤ 48) (i : Int) {n : Int} (hn : n ≠ 0 ∧ -3 ≤ n ∧ n ≤ 3) : Seg a l0 (s.cross i (a + 1) n).l (plSw p n) := by
  obtain ⟨u, hu, hu1, hu2⟩ := absI_sub hn
  have hat : mkAt (a + 1) n = ((a + u : Nat) : Int) := by
    unfold mkAt
    have : (if n < -n then -n else n) = (u : Int) + 1 := hu1
    rw [this]; omega
  have hb : (mkX s.l i (a + 1) n).b.toNat = a + u := by rw [mkX_b, hat]; exact Int.toNat_natCast _
  obtain ⟨va, hva⟩ := get_of_lt (l := s.l) (k := a + u) (by rw [h.len]; omega)
  obtain ⟨vb, hvb⟩ := get_of_lt (l := s.l) (k := a + u + 1) (by rw [h.len]; omega)
  have hl : (s.cross i (a + 1) n).l = (s.l.set (a + u) vb).set (a + u + 1) va := by
    show swapL s.l _ = _
    unfold swapL
    rw [hb, List.getD_eq_getElem?_getD, List.getD_eq_getElem?_getD, hva, hvb]; rfl
  refine ⟨by rw [hl, List.length_set, List.length_set]; exact h.len, by unfold plSw; rw [List.length_set, List.length_set]; exact h.len4, fun k hk => ?_, fun j hj => ?_⟩
  · rw [plSw_get hu2 (by rw [h.len4]; omega), hl, set2_get hva hvb]
    obtain ⟨v, h1, h2, h3⟩ := h.at_ (tr u k) (tr_lt (by omega) hk)
    refine ⟨v, h1, h2, ?_⟩
    rw [← h3]
    congr 1
    rcases tr_cases u k with ⟨e1, e2⟩ | ⟨e1, e2⟩ | ⟨e1, e2, e3⟩
    · rw [e1, tr_a, tr_a]; omega
    · rw [e1, tr_b, show a + (u + 1) = a + u + 1 by omega, tr_b]
    · rw [e3, tr_c (by omega) (by omega)]
  · rw [hl, set2_get hva hvb, tr_c (by omega) (by omega)]
    exact h.out j hj
theorem Seg.crosses {a : Nat} {l0 p : List Int} {s : Mk} (h : Seg a l0 s.l p) (ha : a + 4 ≤ 48) (i : Int) {ns : List Int} (hn : ∀ n ∈ ns, n ≠ 0 ∧ -3 ≤ n ∧ n ≤ 3) : ∀ k, k ≤ ns.length → Seg a l0 (s.crosses i (a + 1) ns k).l ((ns.take k).foldl plSw p)
  | 0, _ => h
  | k + 1, hk => by
    obtain ⟨n, hx⟩ := get_of_lt (l := ns) (k := k) (by omega)
    rw [Mk.crosses_succ hx, List.take_add_one, hx, List.foldl_append]
    exact (Seg.crosses h ha i hn k (by omega)).cross ha i (hn n (mem_of_get hx))
theorem Seg.letters {a : Nat} {l0 p : List Int} {s : Mk} (h : Seg a l0 s.l p) (ha : a + 4 ≤ 48) (i : Int) {bs : List UInt8} : ∀ k, k ≤ bs.length → Seg a l0 (s.letters i (a + 1) bs k).l ((crW bs k).foldl plSw p)
  | 0, _ => h
  | k + 1, hk => by
    obtain ⟨c, hc⟩ := get_of_lt (l := bs) (k := k) (by omega)
    have ih := Seg.letters h ha i (bs := bs) k (by omega)
    rw [Mk.letters_succ hc, crW_succ hc, List.foldl_append]
    unfold Mk.letter
    by_cases h80 : c = 80
    · rw [if_pos h80, h80, show crT (twV 80) 3 = [] by decide]
      exact ih
    · rw [if_neg h80]
      have e : crW [c] 1 = crT (twV c) 3 := rfl
      have := ih.crosses ha i (crL_mem c) (crW [c] 1).length (Nat.le_refl _)
      rw [List.take_length, e] at this
      rw [e]
      exact this
theorem works_seg {ws : List Wk} {k : Nat} {x : Wk} (hx : ws[k]? = some x) (ha : 2 * x.at_.toNat + 4 ≤ 48) : Seg (2 * x.at_.toNat) (Mk.works ws k).l (Mk.works ws (k + 1)).l (plF (crW x.word.data.toList x.word.data.toList.length)) := by
  rw [Mk.works_succ hx]
  unfold Mk.work mkMid
  refine Seg.letters ?_ ha _ _ (Nat.le_refl _)
  split
  · exact Seg.start (Mk.works_len ws k)
  · exact Seg.start (Mk.works_len ws k)
/-! ### threads that hang together -/
theorem rep_line {T : Nat} {xs ps : List Q4} (hE : ckE (T : Int) xs ps = 0) : ∀ k, k ≤ xs.length →
    (∀ i j, i ≤ j → j < T → repTo xs k i ≤ repTo xs k j) ∧ ∀ p, p < T → ∃ u : Nat, u < T ∧ (lineTo xs (lineL 48) k)[p]? = some (u : Int) ∧ repTo xs k u = repTo xs k p
  | 0, _ => ⟨fun i j h _ => h, fun p hp => ⟨p, hp, lineL_get (by have := (ckE_ok hE).2.1; omega), rfl⟩⟩
  | k + 1, hk => by
    obtain ⟨mono, ln⟩ := rep_line hE k (by omega)
    obtain ⟨x, hx⟩ := get_of_lt (l := xs) (k := k) (by omega)
    have hb : 0 ≤ x.b ∧ x.b ≤ (T : Int) - 2 := by
      have := (ckE_ok hE).2.2.2.2.1 x (mem_of_get hx)
      unfold okC at this; simp at this; omega
    obtain ⟨t, ht⟩ := Int.eq_ofNat_of_zero_le hb.1
    have htT : t + 1 < T := by omega
    obtain ⟨u, huT, hu, hru⟩ := ln t (by omega)
    obtain ⟨v, hvT, hv, hrv⟩ := ln (t + 1) htT
    have hm := met_ok hE (k := k) (by omega)
    rw [met_getD hx, ht, show ((t : Nat) : Int).toNat = t by simp, List.getD_eq_getElem?_getD, List.getD_eq_getElem?_getD, hu, hv] at hm
    have hm : endOk (u : Int) (v : Int) x = true := hm
    unfold endOk at hm
    simp only [Bool.or_eq_true, Bool.and_eq_true, beq_iff_eq] at hm
    have hle : repTo xs k t ≤ repTo xs k (t + 1) := mono _ _ (Nat.le_succ t) htT
    have hS : ∀ z, repTo xs (k + 1) z = if repTo xs k z = repTo xs k (t + 1) then repTo xs k t else repTo xs k z := fun z => by
      rw [repTo_succ hx]
      rcases hm with ⟨e1, e2⟩ | ⟨e1, e2⟩
      · rw [← e1, ← e2, show ((u : Nat) : Int).toNat = u by simp, show ((v : Nat) : Int).toNat = v by simp, hru, hrv, Nat.max_eq_right hle, Nat.min_eq_left hle]
      · rw [← e1, ← e2, show ((u : Nat) : Int).toNat = u by simp, show ((v : Nat) : Int).toNat = v by simp, hru, hrv, Nat.max_eq_left hle, Nat.min_eq_right hle]
    refine ⟨fun i j hij hj => ?_, fun p hp => ?_⟩
    · rw [hS, hS]
      have h1 := mono i j hij hj
      have h2 : i ≤ t → repTo xs k i ≤ repTo xs k t := fun h => mono i t h (by omega)
      have h3 : t + 1 ≤ i → repTo xs k (t + 1) ≤ repTo xs k i := fun h => mono (t + 1) i h (by omega)
      split <;> split <;> omega
    · have hL := lineTo_next hx ht hu hv
      rw [hL, set2_get hu hv]
      obtain ⟨q, hqT, hq, hrq⟩ := ln (tr t p) (tr_lt htT hp)
      refine ⟨q, hqT, hq, ?_⟩
      rw [hS, hS, hrq]
      rcases tr_cases t p with ⟨e1, e2⟩ | ⟨e1, e2⟩ | ⟨e1, e2, e3⟩
      · rw [e2, e1]; split <;> simp_all
      · rw [e2, e1]; split <;> simp_all
      · rw [e3]
theorem filter_split {f : Nat → Nat} (Q : Nat) : ∀ l : List Nat, l.Pairwise (fun a b => f a ≤ f b) → l.filter (fun a => decide (f a < Q + 1)) = l.filter (fun a => decide (f a < Q)) ++ l.filter (fun a => f a == Q)
  | [], _ => rfl
  | x :: l, h => by
    obtain ⟨h1, h2⟩ := List.pairwise_cons.1 h
    have ih := filter_split Q l h2
    rcases Nat.lt_trichotomy (f x) Q with g | g | g
    · have e1 : decide (f x < Q + 1) = true := decide_eq_true (by omega)
      have e2 : decide (f x < Q) = true := decide_eq_true g
      have e3 : (f x == Q) = false := by simp; omega
      simp only [List.filter_cons, e1, e2, e3, if_true, ih]; simp
    · have e0 : l.filter (fun a => decide (f a < Q)) = [] := List.filter_eq_nil_iff.2 (fun y hy => by have := h1 y hy; simp; omega)
      have e1 : decide (f x < Q + 1) = true := decide_eq_true (by omega)
      have e2 : decide (f x < Q) = false := decide_eq_false (by omega)
      have e3 : (f x == Q) = true := by simp; omega
      simp only [List.filter_cons, e1, e2, e3, if_true, ih, e0]; simp
    · have e0 : ∀ y ∈ l, Q < f y := fun y hy => by have := h1 y hy; omega
      have e1 : decide (f x < Q + 1) = false := decide_eq_false (by omega)
      have e2 : decide (f x < Q) = false := decide_eq_false (by omega)
      have e3 : (f x == Q) = false := by simp; omega
      simp only [List.filter_cons, e1, e2, e3, ih]; simp
theorem flat_to {f : Nat → Nat} {l : List Nat} (h : l.Pairwise (fun a b => f a ≤ f b)) : ∀ Q, ((List.range Q).map (fun q => (l.filter (fun a => f a == q)).map (fun (a : Nat) => (a : Int)))).flatten = (l.filter (fun a => decide (f a < Q))).map (fun (a : Nat) => (a : Int))
  | 0 => by simp
  | Q + 1 => by
    rw [List.range_succ, List.map_append, List.flatten_append, flat_to h Q, filter_split Q l h, List.map_append]
    simp
theorem flat_sets {T : Nat} {xs ps : List Q4} (hE : ckE (T : Int) xs ps = 0) : (setsR xs T).flatten = (List.range T).map (fun (i : Nat) => (i : Int)) := by
  have hm := (rep_line hE xs.length (Nat.le_refl _)).1
  have hp : (List.range T).Pairwise (fun a b => repTo xs xs.length a ≤ repTo xs xs.length b) := by
    rw [List.pairwise_iff_getElem]
    intro i j hi hj hij
    rw [List.getElem_range, List.getElem_range]
    rw [List.length_range] at hj
    exact hm i j (Nat.le_of_lt hij) hj
  unfold setsR
  rw [List.flatten_filter_not_isEmpty, flat_to hp T]
  congr 1
  rw [List.filter_eq_self]
  intro a ha
  have := repTo_le xs xs.length a
  simp at ha ⊢; omega
theorem flat_get : ∀ {rows : List (List Int)} {i k : Nat} {r : List Int} {x : Int}, rows[i]? = some r → r[k]? = some x → rows.flatten[(rows.take i).flatten.length + k]? = some x
  | [], i, k, r, x, h, _ => by simp at h
  | s :: rows, 0, k, r, x, h, hx => by
    simp at h; subst h
    simp only [List.take_zero, List.flatten_nil, List.length_nil, Nat.zero_add, List.flatten_cons]
    rw [List.getElem?_append_left (lt_of_get hx)]; exact hx
  | s :: rows, i + 1, k, r, x, h, hx => by
    have ih := flat_get (rows := rows) (i := i) (by simpa using h) hx
    simp only [List.take_succ_cons, List.flatten_cons, List.length_append]
    rw [List.getElem?_append_right (by omega), show s.length + (rows.take i).flatten.length + k - s.length = (rows.take i).flatten.length + k by omega]
    exact ih
theorem flat_next {rows : List (List Int)} {i : Nat} {r : List Int} (h : rows[i]? = some r) : (rows.take (i + 1)).flatten.length = (rows.take i).flatten.length + r.length := by
  rw [List.take_add_one, h, List.flatten_append, List.length_append]; simp
theorem set_at {T : Nat} {xs ps : List Q4} (hE : ckE (T : Int) xs ps = 0) {i k : Nat} {r : List Int} {x : Int} (h : (setsR xs T)[i]? = some r) (hx : r[k]? = some x) : x = (((setsR xs T).take i).flatten.length + k : Nat) := by
  have := flat_get h hx
  rw [flat_sets hE, List.getElem?_map] at this
  cases h2 : (List.range T)[((setsR xs T).take i).flatten.length + k]? with
  | none => rw [h2] at this; cases this
  | some y =>
    rw [h2] at this
    have hy : y = ((setsR xs T).take i).flatten.length + k := by
      have h3 := lt_of_get h2
      rw [List.length_range] at h3
      rw [List.getElem?_range h3] at h2
      injection h2 with h2; exact h2.symm
    rw [hy] at this
    injection this with this; exact this.symm
theorem set_all {T : Nat} {xs ps : List Q4} (hE : ckE (T : Int) xs ps = 0) : ((setsR xs T).take (setsR xs T).length).flatten.length = T := by
  rw [List.take_length, flat_sets hE]; simp
theorem set_lim {T : Nat} {xs ps : List Q4} (hE : ckE (T : Int) xs ps = 0) {i : Nat} {r : List Int} (h : (setsR xs T)[i]? = some r) : ((setsR xs T).take i).flatten.length + r.length ≤ T := by
  rw [← flat_next h]
  have h1 := set_all hE
  rw [List.take_length] at h1
  have h2 : (setsR xs T).flatten = ((setsR xs T).take (i + 1)).flatten ++ ((setsR xs T).drop (i + 1)).flatten := by rw [← List.flatten_append, List.take_append_drop]
  rw [h2, List.length_append] at h1
  omega
/-- a set's places at the start are its places at the end -/
theorem set_end {T : Nat} {xs ps : List Q4} (hE : ckE (T : Int) xs ps = 0) {i p : Nat} {r : List Int} (h : (setsR xs T)[i]? = some r) (h1 : ((setsR xs T).take i).flatten.length ≤ p) (h2 : p < ((setsR xs T).take i).flatten.length + r.length) :
    ∃ u : Nat, u < T ∧ (lineTo xs (lineL 48) xs.length)[p]? = some (u : Int) ∧ r.contains (u : Int) = true := by
  have hpT : p < T := by have := set_lim hE h; omega
  obtain ⟨u, huT, hu, hr⟩ := (rep_line hE xs.length (Nat.le_refl _)).2 p hpT
  refine ⟨u, huT, hu, ?_⟩
  obtain ⟨q, hq⟩ : ∃ q, r = ((List.range T).filter (fun a => repTo xs xs.length a == q)).map (fun (a : Nat) => (a : Int)) := by
    have := mem_of_get h
    unfold setsR at this
    obtain ⟨h3, _⟩ := List.mem_filter.1 this
    obtain ⟨q, _, hq⟩ := List.mem_map.1 h3
    exact ⟨q, hq.symm⟩
  obtain ⟨x, hx⟩ := get_of_lt (l := r) (k := p - ((setsR xs T).take i).flatten.length) (by omega)
  have hxp := set_at hE h hx
  have hxm := mem_of_get hx
  rw [hxp, hq] at hxm
  obtain ⟨a, ha, hap⟩ := List.mem_map.1 hxm
  obtain ⟨ha1, ha2⟩ := List.mem_filter.1 ha
  have hapn : a = p := by omega
  rw [List.contains_iff_mem, hq]
  refine List.mem_map.2 ⟨u, List.mem_filter.2 ⟨List.mem_range.2 huT, ?_⟩, rfl⟩
  rw [hr, ← hapn]; exact ha2
end Go.Proofs.Ytpljaoagiaijiaa
