/-
  Contracts of the closures of compile.Quick that count the works of a sweep.
-/
import Derived.Test.YtnjenggijmbhcaaVK25
import Derived.Test.YtnjenggijmbhcaaVK26
import Derived.Deep.MidRow
import Derived.BigQuiet
namespace Go.Proofs.Ytnjenggijmbhcaa
open Go.RowKit
set_option maxRecDepth 100000 in
set_option maxHeartbeats 1000000 in
theorem count105 (i : Int) (k bn : Nat) (w : World) (h : Has w bn 3 [.int .i64 (k : Int)]) (hk : k ≤ 1000000) :
    Calls Try.prog 105 #[.int .i64 i, .pointer (some ⟨bn, 0, none⟩)] w fun e w' => e = .returned (.tuple #[]) ∧ Has w' bn 3 [.int .i64 ((k + 1 : Nat) : Int)] ∧ But bn w w' := by
  have c0 : w.cell? ⟨bn, 0, none⟩ = some (.int .i64 (k : Int)) := h.cell 0
  have f0 := h.free 0
  have hlt := h.lt
  have HR := Lib.hid h
  have ik : IntKind.i64.wrap ((k : Int) + 1) = (k : Int) + 1 := IntWalk.i64_in _ (by omega)
  clear h hk
  go_enter Try.func105, Try.ntmps105
  go_wp2
  go_end0
  exact ⟨rfl, HR.out.set 0 _, But.set _ _ _ _⟩
theorem wpQuiet_load_row {P : Program} {ops : Array Oper} {C : World → Prop} {Q : Act → Prop} {a : Act} {o : Oper} {rest : List Oper} (hw : Region.wanted o (yielded ops a.tmps) = true) (ty : TypeId) (x : Operand) (ho : o.op = .load ty x)
    (b : Nat) (hx : a.eval x = .pointer (some ⟨b, 0, none⟩)) (cs : List Value) (d : TypeDesc) (hS : ∀ w, C w → w.rangeAt b 0 cs) (hu : P.underlying ty = some d) (hd : d.isRow = true) (hi : (P.info? ty).map (·.size) = some cs.length)
    (h : wpQuiet P ops C Q rest (a.put o.dst (.agg cs.toArray))) : wpQuiet P ops C Q (o :: rest) a :=
  BigFrame.wpQuiet_want hw fun K hK => ⟨_, fun w hw' => by
    unfold Oper.quietAt execOp
    simp only [ho, hx, Instr.loadAt, Instr.sureAddr, Sem.run_bind, Sem.run_pure, Result.andThen_ok, run_loadVar_mid w b 0 ty cs d (hS w hw') hu hd hi]
    exact ⟨rfl, rfl⟩, hK _ h⟩
theorem rangeAt_has {w : World} {g : Nat} {t : TypeId} {cs : List Value} (h : Has w g t cs) : w.rangeAt g 0 cs := fun j v hv => by
  rw [Nat.zero_add]; exact (h.cell j).trans hv
theorem rows_one {g0 Br g : Nat} {W : World} {ws : List Wk} {D : Nat → Bool} {V : Nat → Value} (H : QuH g0 Br W g ws D V) : ((List.range 24).map V).toArray.all (·.oneCell') = true := by
  rw [Array.all_eq_true']
  intro v hv
  rw [List.mem_toArray, List.mem_map] at hv
  obtain ⟨q, hq, rfl⟩ := hv
  obtain ⟨A, c, h1, _⟩ := H.r q (List.mem_range.1 hq)
  rw [h1]; rfl
set_option maxRecDepth 100000 in
set_option maxHeartbeats 4000000 in
theorem quick1 (g0 Br g rp sp hd s : Nat) (ws : List Wk) (D : Nat → Bool) (V : Nat → Value) (w : World) (H : QuH g0 Br w g ws D V) (hBr : Br ≤ w.heap.size) (hn : ws.length ≤ 400)
    (hrp : Has w rp 135 [.pointer (some ⟨g, 0, none⟩)]) (hsp : Has w sp 3 [.int .i64 (s : Int)]) (hs1 : 1 ≤ s) (hh : hd + s ≤ 24) :
    Calls Try.prog 103 #[.int .i64 (hd : Int), .pointer (some ⟨rp, 0, none⟩), .pointer (some ⟨sp, 0, none⟩)] w fun e w' => e = .returned (.int .i64 (much ws (s - 1) D hd : Int)) ∧ Below w.heap.size w w' := by
  have HQ := Lib.hid H
  have HRP := Lib.hid hrp
  have HSP := Lib.hid hsp
  have hNL : ws.length ≤ 400 := hn
  clear H hrp hsp
  go_enter Try.func103, Try.ntmps103
  go_upto_region 1 with (fail)
  go_cut [5, 6] from 7 (fun v5 v6 wx => ∃ bn bc, v5 = .pointer (some ⟨bn, 0, none⟩) ∧ v6 = .pointer (some ⟨bc, 0, none⟩) ∧ w.heap.size ≤ bn ∧ w.heap.size ≤ bc ∧ bn ≠ bc ∧ Hid (Has wx bn 3 [.int .i64 0]) ∧ Hid (Has wx bc 136 ((List.range 24).map V)) ∧ Hid (Below w.heap.size w wx))
  case first =>
    refine wp_region_news [.q, .q, .q, .mk 0, .mk 1, .st 0, .st 1] [⟨5, 4, none, 3, [.int .i64 0], [.int .i64 0], .int .i64 0⟩, ⟨6, 9, none, 136, (List.range 24).map fun _ => Value.slice none 0 0, (List.range 24).map V, .agg ((List.range 24).map V).toArray⟩] ?aH1 (by kernel_rfl) (by kernel_rfl) (by simp) (by simp) ?hq1 ?hv1 ?hA1 ?he1
    case hq1 =>
      intro w5 h5
      have HQ5 := HQ.out.keep (KeepQ.of_below h5 hBr) (h5.block g HQ.out.h.lt)
      have hr5 := HRP.out.below h5 HRP.out.lt
      have r0 : w5.cell? ⟨rp, 0, none⟩ = some (.pointer (some ⟨g, 0, none⟩)) := hr5.cell 0
      have qr := hr5.lt
      have qg := HQ5.h.lt
      have hxc := fun (x : Ext w5) => x.cell
      clear hr5
      show wpQuiet _ _ _ _ [_, _, _] _
      go_big_quiet_step (fail)
      go_big_quiet_step (fail)
      refine wpQuiet_load_row (by rfl) _ _ rfl g rfl ((List.range 24).map V) _ (fun W hW => ?_) Try.underlying136 rfl (by rw [List.length_map, List.length_range]; kernel_rfl) ?_
      · obtain ⟨x, rfl⟩ := hW
        exact rangeAt_has (HQ5.h.below x.below qg)
      refine wpQuiet_nil ?_
      rfl
    case hv1 => simp [Act.put]
    case hA1 =>
      refine ⟨fun x hx => ?_, fun x hx => ?_, fun x hx => ?_, fun x hx => ?_, trivial⟩ <;> (obtain rfl := Option.some.inj hx)
      · exact fun b W => by go_simp
      · exact fun b W => by go_simp
      · intro b W gg hp hr hh
        have c0 : W.cell? ⟨gg, 0, none⟩ = some (.int .i64 0) := hh.cell 0
        have f0 := hh.free 0
        refine ⟨W.setCell ⟨gg, 0, none⟩ (.int .i64 0), ?_, hh.set 0 (.int .i64 0), But.set gg W 0 _⟩
        go_simp
      · exact stOk_agg rfl rfl (by show _ = some ((List.range 24).map V).toArray.size; rw [List.size_toArray, List.length_map, List.length_range]; kernel_rfl) (by simp) (rows_one HQ.out)
    case he1 =>
      intro bs w1 hb1 hH hne
      have HP0 := hH 0 _ rfl
      have HP1 := hH 1 _ rfl
      have hn01 := hne 0 1 (by simp) (by simp) (by omega)
      go_wp2
      go_meet
      case rel => exact ⟨bs 0, bs 1, rfl, rfl, HP0.2, HP1.2, hn01, Lib.hid HP0.1, Lib.hid HP1.1, Lib.hid hb1⟩
  case rest =>
    obtain ⟨bn, bc, hv1, hv2, hbn, hbc, hne, GN, GC, HB⟩ := hcut
    subst hv1 hv2
    have HQ1 := HQ.out.keep (KeepQ.of_below HB.out hBr) (HB.out.block g HQ.out.h.lt)
    have HQC : QuH g0 Br wc bc ws D V := ⟨GC.out, HQ1.r⟩
    have hsp1 := HSP.out.below HB.out HSP.out.lt
    have s0 : wc.cell? ⟨sp, 0, none⟩ = some (.int .i64 (s : Int)) := hsp1.cell 0
    have hBr1 : Br ≤ wc.heap.size := Nat.le_trans hBr HB.out.size
    have SW := Lib.hid (fun eg => sweep104 (fun pre W => Has W bn 3 [.int .i64 (pre.length : Int)] ∧ Below w.heap.size w W ∧ wc.heap.size ≤ W.heap.size) 105 #[.pointer (some ⟨bn, 0, none⟩)] g0 Br bc hd s ws D V [] wc eg (.inr (Nat.le_trans hBr hbc)) hBr1 HQC hs1 hh ⟨GN.out, HB.out, Nat.le_refl _⟩
      (fun pre W W' h k => ⟨k.has h.1 hne, h.2.1.trans (k.below hbc h.2.1.size), Nat.le_trans h.2.2 k.size⟩)
      (fun pre i W hi hpl hI hB => (count105 (i : Int) pre.length bn W hI.1 (by simp at hpl; omega)).mono fun e W' ⟨h1, h2, h3⟩ =>
        ⟨h1, ⟨by rw [List.length_append]; exact h2, hI.2.1.trans (h3.below hbn hI.2.1.size), Nat.le_trans hI.2.2 h3.size⟩, KeepQ.of_but h3 (.inr (Nat.le_trans hBr hbn)) hB, h3.block bc (Nat.lt_of_lt_of_le GC.out.lt hI.2.2) (by intro e; injection e with e; exact hne e.symm), h3.size⟩))
    clear HQ1 hsp1 HQC
    go_wp2_with fail
    refine (SW.out (by intros; rfl)).mono ?_
    rintro e w2 ⟨rfl, _, hI2, _, _⟩
    dsimp only
    rw [List.nil_append] at hI2
    have n0 : w2.cell? ⟨bn, 0, none⟩ = some (.int .i64 ((sweep ws hd (s - 1) D).length : Int)) := hI2.1.cell 0
    have HB2 := Lib.hid hI2.2.1
    clear hI2 SW
    go_wp2
    go_ret
    exact ⟨rfl, HB2.out⟩
end Go.Proofs.Ytnjenggijmbhcaa
/-
  Contracts of compile.step, and of the closure of compile.Quick that writes a step.
-/
namespace Go.Proofs.Ytnjenggijmbhcaa
open Go.RowKit
theorem infoSt : (Try.prog.info? 64).map (fun i => (i.zero, i.size, i.bytes)) = some (some (.agg #[.int .i64 0, .int .i64 0, .string ⟨#[]⟩]), 3, 32) := by kernel_rfl
set_option maxRecDepth 100000 in
set_option maxHeartbeats 400000 in
theorem step107 (kd at_ : Int) (wd : ByteArray) (w : World) : Calls Try.prog 107 #[.agg #[.int .i64 kd, .int .i64 at_, .string wd]] w fun e w' => e = .returned (.agg #[.int .i64 (stepOf ⟨kd, at_, wd⟩).kind, .int .i64 (stepOf ⟨kd, at_, wd⟩).at_, .string (stepOf ⟨kd, at_, wd⟩).word]) ∧ Below w.heap.size w w' := by
  by_cases h : kd = 2
  · subst h
    go_enter Try.func107, Try.ntmps107
    go_wp2
    refine post_cell (cs := [.int .i64 3, .int .i64 at_, .string ⟨#[]⟩]) (g := w.heap.size + 1) (t := 64) ?_ rfl rfl rfl Try.underlying64 (by kernel_rfl) ⟨rfl, by go_grown⟩
    have := Has.new (w := w.alloc (.cells #[.int .i64 2, .int .i64 at_, .string wd] 26)) (t := 64) (cs := [.int .i64 3, .int .i64 at_, .string ⟨#[]⟩]) rfl
    rw [World.size_alloc] at this
    exact this
  · have e : stepOf ⟨kd, at_, wd⟩ = ⟨2, at_, wd⟩ := if_neg h
    have hk : (kd == 2) = false := by simpa using h
    rw [e]
    clear e h
    go_enter Try.func107, Try.ntmps107
    go_wp2
    refine post_cell (cs := [.int .i64 2, .int .i64 at_, .string wd]) (g := w.heap.size + 1) (t := 64) ?_ rfl rfl rfl Try.underlying64 (by kernel_rfl) ⟨rfl, by go_grown⟩
    have := Has.new (w := w.alloc (.cells #[.int .i64 kd, .int .i64 at_, .string wd] 26)) (t := 64) (cs := [.int .i64 2, .int .i64 at_, .string wd]) rfl
    rw [World.size_alloc] at this
    exact this
/-- all blocks below Bo but g are as they were -/
structure KeepO (Bo g : Nat) (w w' : World) : Prop where
  os : w'.os = w.os
  tape : w'.tape = w.tape
  output : w'.output = w.output
  size : w.heap.size ≤ w'.heap.size
  block : ∀ r, r < Bo → r ≠ g → w'.heap[r]? = w.heap[r]?
theorem KeepO.refl (Bo g : Nat) (w : World) : KeepO Bo g w w := ⟨rfl, rfl, rfl, Nat.le_refl _, fun _ _ _ => rfl⟩
theorem KeepO.trans {Bo g : Nat} {a b c : World} (h : KeepO Bo g a b) (k : KeepO Bo g b c) : KeepO Bo g a c :=
  ⟨k.os.trans h.os, k.tape.trans h.tape, k.output.trans h.output, Nat.le_trans h.size k.size, fun r h1 h2 => (k.block r h1 h2).trans (h.block r h1 h2)⟩
theorem KeepO.of_below {Bo g : Nat} {w w' : World} (h : Below Bo w w') : KeepO Bo g w w' := ⟨h.os, h.tape, h.output, h.size, fun r h1 _ => h.block r h1⟩
theorem KeepO.of_but {Bo g : Nat} {w w' : World} (h : But g w w') (hB : Bo ≤ w.heap.size) : KeepO Bo g w w' := ⟨h.os, h.tape, h.output, h.size, fun r h1 h2 => h.block r (by omega) (by intro e; injection e with e; exact h2 e)⟩
theorem KeepO.has {Bo g r : Nat} {w w' : World} {t : TypeId} {cs : List Value} (h : KeepO Bo g w w') (k : Has w r t cs) (h1 : r < Bo) (h2 : r ≠ g) : Has w' r t cs := k.same (h.block r h1 h2)
theorem KeepO.below {Bo g B : Nat} {w w' : World} (h : KeepO Bo g w w') (h1 : B ≤ Bo) (h2 : B ≤ g) : Below B w w' := ⟨h.os, h.tape, h.output, h.size, fun r hr => h.block r (by omega) (by omega)⟩
/-- what Quick holds of its steps: they lie in a row of its own, whose slice lies at bo; bm counts the works -/
structure QI (Bo g bo bm : Nat) (w3 : World) (os : List Wk) (k : Nat) (W : World) : Prop where
  o : ∃ (A : Option Addr) (c : Nat), Has W bo 47 [.slice A os.length c] ∧ W.ownsRow Bo 64 3 (.slice A os.length c) os.length (wksCells os)
  m : Has W bm 3 [.int .i64 (k : Int)]
  keep : KeepO Bo g w3 W
theorem QI.but {Bo g bo bm k : Nat} {w3 W W' : World} {os : List Wk} (h : QI Bo g bo bm w3 os k W) (b : But g W W') (hB : Bo ≤ w3.heap.size) (hg : g < Bo) (h1 : Bo ≤ bo) (h2 : Bo ≤ bm) : QI Bo g bo bm w3 os k W' := by
  obtain ⟨A, c, a1, a2⟩ := h.o
  refine ⟨⟨A, c, b.has a1 (by omega), b.own a2 (fun e => by have := (a2.lt g e).1; omega)⟩, b.has h.m (by omega), h.keep.trans (KeepO.of_but b (Nat.le_trans hB h.keep.size))⟩
theorem QI.below {Bo g bo bm k : Nat} {w3 W W' : World} {os : List Wk} (h : QI Bo g bo bm w3 os k W) (b : Below W.heap.size W W') (hB : Bo ≤ W.heap.size) : QI Bo g bo bm w3 os k W' := by
  obtain ⟨A, c, a1, a2⟩ := h.o
  exact ⟨⟨A, c, a1.below b a1.lt, own_below a2 b⟩, h.m.below b h.m.lt, h.keep.trans (KeepO.of_below (b.mono hB))⟩
set_option maxRecDepth 100000 in
set_option maxHeartbeats 8000000 in
theorem quick2 (Bo g gs bo bm B0 k i n c : Nat) (p : Int) (A : Option Addr) (ws os : List Wk) (x : Wk) (w3 w : World) (h : QI Bo g bo bm w3 os k w) (hB : Bo ≤ w3.heap.size) (hg : g < Bo) (hgs : gs < Bo) (hgg : gs ≠ g) (hbo : Bo ≤ bo) (hbm : Bo ≤ bm) (hne : bm ≠ bo)
    (hS : Has w3 gs 24 [.int .i64 p, .slice A n c]) (hW : RdW w3 B0 A ws) (hB0 : B0 ≤ g) (hl : ws.length = n) (hx : ws[i]? = some x) (hk : k ≤ 100000) (hos : os.length ≤ 100000) :
    Calls Try.prog 106 #[.int .i64 (i : Int), .pointer (some ⟨bo, 0, none⟩), .pointer (some ⟨gs, 0, none⟩), .pointer (some ⟨bm, 0, none⟩)] w fun e w' => e = .returned (.tuple #[]) ∧ QI Bo g bo bm w3 (os ++ [stepOf x]) (k + 1) w' ∧ Below Bo w w' := by
  obtain ⟨bw, ow, rfl, hb, _⟩ := hW i x hx
  have hS1 := h.keep.has hS hgs hgg
  have hW1 := hW.below (h.keep.below (B := B0) (by omega) hB0) (Nat.le_refl _)
  have hbw : Bo ≤ w.heap.size := Nat.le_trans hB h.keep.size
  have HFc := Lib.hid (fun (V : World) (hV : Below Bo w V) => (by
    have hs := hS1.below hV hgs
    obtain ⟨b', o', e, _, c0, c1, c2⟩ := (hW1.below (hV.mono (by omega)) (Nat.le_refl _)) i x hx
    injection e with e; injection e with e1 e2
    subst e1 e2
    exact ⟨hs.cell 1, c0, c1, c2⟩ : V.cell? ⟨gs, 1, none⟩ = some (.slice (some ⟨bw, ow, none⟩) n c) ∧ V.cell? ⟨bw, ow + i * 3, none⟩ = some (.int .i64 x.kind) ∧ V.cell? ⟨bw, ow + i * 3 + 1, none⟩ = some (.int .i64 x.at_) ∧ V.cell? ⟨bw, ow + i * 3 + 2, none⟩ = some (.string x.word)))
  obtain ⟨A1, c1, a1, a2⟩ := h.o
  have HK := Lib.hid h.keep
  have HM := Lib.hid h.m
  have HB1 := Lib.hid a1
  have HO := Lib.hid a2
  have CS := Lib.hid (fun W => step107 x.kind x.at_ x.word W)
  have hi0 : (0 : Int) ≤ (i : Int) := by omega
  have hi1 : (i : Int) < (n : Int) := by have := lt_of_get hx; omega
  have ik : IntKind.i64.wrap ((k : Int) + 1) = (k : Int) + 1 := IntWalk.i64_in _ (by omega)
  obtain ⟨m, hm⟩ : ∃ m, m = os.length := ⟨_, rfl⟩
  rw [← hm] at HB1 HO hos
  have HMM := Lib.hid hm
  clear h hS hW hS1 hW1 hx a1 a2 hm hl
  obtain ⟨⟨sk, sa, sw⟩, hsx⟩ : ∃ s, s = stepOf x := ⟨_, rfl⟩
  have CS2 : Hid (∀ W : World, Calls Try.prog 107 #[.agg #[.int .i64 x.kind, .int .i64 x.at_, .string x.word]] W fun e w' => e = .returned (.agg #[.int .i64 sk, .int .i64 sa, .string sw]) ∧ Below W.heap.size W w') := fun W => by
    have := CS.out W
    rw [show stepOf ⟨x.kind, x.at_, x.word⟩ = stepOf x from rfl, ← hsx] at this
    exact this
  have HSX := Lib.hid hsx
  clear CS hsx
  go_enter Try.func106, Try.ntmps106
  go_upto_region 0 with (fail)
  have zf := HFc.out w.drew (Below.refl _ _).drew
  have zb : w.drew.cell? ⟨bo, 0, none⟩ = some (.slice A1 m c1) := HB1.out.cell 0
  refine wp_region_noPanic ?_
  refine wp_region_B (fun b w' => w'.cell? ⟨gs, 1, none⟩ = some (.slice (some ⟨bw, ow, none⟩) n c) ∧ w'.cell? ⟨bw, ow + i * 3, none⟩ = some (.int .i64 x.kind) ∧ w'.cell? ⟨bw, ow + i * 3 + 1, none⟩ = some (.int .i64 x.at_) ∧ w'.cell? ⟨bw, ow + i * 3 + 2, none⟩ = some (.string x.word) ∧ (b = false → w'.cell? ⟨bo, 0, none⟩ = some (.slice A1 m c1))) 9 (by kernel_rfl) ?_
  have hSS : (fun b w' => w'.cell? ⟨gs, 1, none⟩ = some (.slice (some ⟨bw, ow, none⟩) n c) ∧ w'.cell? ⟨bw, ow + i * 3, none⟩ = some (.int .i64 x.kind) ∧ w'.cell? ⟨bw, ow + i * 3 + 1, none⟩ = some (.int .i64 x.at_) ∧ w'.cell? ⟨bw, ow + i * 3 + 2, none⟩ = some (.string x.word) ∧ (b = false → w'.cell? ⟨bo, 0, none⟩ = some (.slice A1 m c1))) false (w.drew) := ⟨zf.1, zf.2.1, zf.2.2.1, zf.2.2.2, fun _ => zb⟩
  refine wpAnyB_take (i := 0) (oi := _) (v := ?vv1) (fun w' => w'.cell? ⟨gs, 1, none⟩ = some (.slice (some ⟨bw, ow, none⟩) n c) ∧ w'.cell? ⟨bw, ow + i * 3, none⟩ = some (.int .i64 x.kind) ∧ w'.cell? ⟨bw, ow + i * 3 + 1, none⟩ = some (.int .i64 x.at_) ∧ w'.cell? ⟨bw, ow + i * 3 + 2, none⟩ = some (.string x.word) ∧ w'.cell? ⟨bo, 0, none⟩ = some (.slice A1 m c1)) rfl (by kernel_rfl) (by kernel_rfl) (by kernel_rfl) (by kernel_rfl) (by rfl) (fun _ h => ⟨h.1, h.2.1, h.2.2.1, h.2.2.2.1, h.2.2.2.2 rfl⟩) (.inr (by kernel_rfl)) (fun _ _ _ h => h) (.inl ⟨by rfl, ?hy1⟩) hSS ?_
  case hy1 =>
    intro w' hSw
    try dsimp only at hSw
    go_simp
    all_goals with_reducible rfl
  try simp only [Act.put, List.setIfInBounds_toArray]
  refine wpAnyB_take (i := 1) (oi := _) (v := ?vv2) (fun w' => w'.cell? ⟨gs, 1, none⟩ = some (.slice (some ⟨bw, ow, none⟩) n c) ∧ w'.cell? ⟨bw, ow + i * 3, none⟩ = some (.int .i64 x.kind) ∧ w'.cell? ⟨bw, ow + i * 3 + 1, none⟩ = some (.int .i64 x.at_) ∧ w'.cell? ⟨bw, ow + i * 3 + 2, none⟩ = some (.string x.word)) rfl (by kernel_rfl) (by kernel_rfl) (by kernel_rfl) (by kernel_rfl) (by rfl) (fun _ h => ⟨h.1, h.2.1, h.2.2.1, h.2.2.2.1⟩) (.inl fun _ h => ⟨h.1, h.2.1, h.2.2.1, h.2.2.2.1⟩) (fun _ _ _ h => h) (.inl ⟨by rfl, ?hy2⟩) hSS ?_
  case hy2 =>
    intro w' hSw
    try dsimp only at hSw
    go_simp
    all_goals with_reducible rfl
  try simp only [Act.put]
  refine wpAnyB_take (i := 2) (oi := _) (v := ?vv3) (fun w' => w'.cell? ⟨gs, 1, none⟩ = some (.slice (some ⟨bw, ow, none⟩) n c) ∧ w'.cell? ⟨bw, ow + i * 3, none⟩ = some (.int .i64 x.kind) ∧ w'.cell? ⟨bw, ow + i * 3 + 1, none⟩ = some (.int .i64 x.at_) ∧ w'.cell? ⟨bw, ow + i * 3 + 2, none⟩ = some (.string x.word)) rfl (by kernel_rfl) (by kernel_rfl) (by kernel_rfl) (by kernel_rfl) (by rfl) (fun _ h => ⟨h.1, h.2.1, h.2.2.1, h.2.2.2.1⟩) (.inl fun _ h => ⟨h.1, h.2.1, h.2.2.1, h.2.2.2.1⟩) (fun _ _ _ h => h) (.inl ⟨by rfl, ?hy3⟩) hSS ?_
  case hy3 =>
    intro w' hSw
    try dsimp only at hSw
    go_simp
    all_goals with_reducible rfl
  try simp only [Act.put]
  refine wpAnyB_take (i := 3) (oi := _) (v := ?vv4) (fun w' => w'.cell? ⟨gs, 1, none⟩ = some (.slice (some ⟨bw, ow, none⟩) n c) ∧ w'.cell? ⟨bw, ow + i * 3, none⟩ = some (.int .i64 x.kind) ∧ w'.cell? ⟨bw, ow + i * 3 + 1, none⟩ = some (.int .i64 x.at_) ∧ w'.cell? ⟨bw, ow + i * 3 + 2, none⟩ = some (.string x.word)) rfl (by kernel_rfl) (by kernel_rfl) (by kernel_rfl) (by kernel_rfl) (by rfl) (fun _ h => ⟨h.1, h.2.1, h.2.2.1, h.2.2.2.1⟩) (.inl fun _ h => ⟨h.1, h.2.1, h.2.2.1, h.2.2.2.1⟩) (fun _ _ _ h => h) (.inl ⟨by rfl, ?hy4⟩) hSS ?_
  case hy4 =>
    intro w' hSw
    try dsimp only at hSw
    go_simp
    all_goals with_reducible rfl
  try simp only [Act.put]
  refine wpAnyB_take (i := 4) (oi := _) (v := ?vv5) (fun w' => w'.cell? ⟨gs, 1, none⟩ = some (.slice (some ⟨bw, ow, none⟩) n c) ∧ w'.cell? ⟨bw, ow + i * 3, none⟩ = some (.int .i64 x.kind) ∧ w'.cell? ⟨bw, ow + i * 3 + 1, none⟩ = some (.int .i64 x.at_) ∧ w'.cell? ⟨bw, ow + i * 3 + 2, none⟩ = some (.string x.word)) rfl (by kernel_rfl) (by kernel_rfl) (by kernel_rfl) (by kernel_rfl) (by rfl) (fun _ h => ⟨h.1, h.2.1, h.2.2.1, h.2.2.2.1⟩) (.inl fun _ h => ⟨h.1, h.2.1, h.2.2.1, h.2.2.2.1⟩) (fun _ _ _ h => h) (.inl ⟨by rfl, ?hy5⟩) hSS ?_
  case hy5 =>
    intro w' hSw
    try dsimp only at hSw
    go_simp
    all_goals with_reducible rfl
  try simp only [Act.put]
  refine wpAnyB_take (i := 5) (oi := _) (v := ?vv6) (fun w' => w'.cell? ⟨gs, 1, none⟩ = some (.slice (some ⟨bw, ow, none⟩) n c) ∧ w'.cell? ⟨bw, ow + i * 3, none⟩ = some (.int .i64 x.kind) ∧ w'.cell? ⟨bw, ow + i * 3 + 1, none⟩ = some (.int .i64 x.at_) ∧ w'.cell? ⟨bw, ow + i * 3 + 2, none⟩ = some (.string x.word)) rfl (by kernel_rfl) (by kernel_rfl) (by kernel_rfl) (by kernel_rfl) (by rfl) (fun _ h => ⟨h.1, h.2.1, h.2.2.1, h.2.2.2.1⟩) (.inl fun _ h => ⟨h.1, h.2.1, h.2.2.1, h.2.2.2.1⟩) (fun _ _ _ h => h) (.inl ⟨by rfl, ?hy6⟩) hSS ?_
  case hy6 =>
    intro w' hSw
    try dsimp only at hSw
    go_simp
    all_goals with_reducible rfl
  try simp only [Act.put]
  refine wpAnyB_one (i := 6) false rfl (by kernel_rfl) (by kernel_rfl) ?_
  intro KK hKK
  go_simp
  refine (CS2.out _).mono ?_
  rintro e w4 ⟨rfl, hb4⟩
  dsimp only
  have D4 : Below Bo w w4 := (Below.refl Bo w).drew.trans (hb4.mono hbw)
  have K4 := HB1.out.drew.below hb4 HB1.out.lt
  have O4 := own_below (w := w.drew) HO.out hb4
  have M4 := HM.out.drew.below hb4 HM.out.lt
  have f4 := HFc.out w4 D4
  have n4 : Bo ≤ w4.heap.size := Nat.le_trans hbw D4.size
  clear hb4
  refine hKK.out _ _ ⟨f4.1, f4.2.1, f4.2.2.1, f4.2.2.2, fun _ => K4.cell 0⟩ ?_
  clear hKK KK
  try simp only [Act.put, List.setIfInBounds_toArray, List.set_cons_zero, List.set_cons_succ]
  refine wpAnyB_one (i := 7) false rfl (by kernel_rfl) (by kernel_rfl) ?_
  intro KK hKK
  go_simp
  have D5 := D4.alloc n4 (.cells #[.int .i64 sk, .int .i64 sa, .string sw] 64)
  have K5 := K4.alloc (.cells #[.int .i64 sk, .int .i64 sa, .string sw] 64)
  have O5 := O4.alloc (.cells #[.int .i64 sk, .int .i64 sa, .string sw] 64)
  have M5 := M4.alloc (.cells #[.int .i64 sk, .int .i64 sa, .string sw] 64)
  have f5 := HFc.out _ D5
  have y5 : (w4.alloc (.cells #[.int .i64 sk, .int .i64 sa, .string sw] 64)).cell? ⟨w4.heap.size, 0, none⟩ = some (.int .i64 sk) := by go_simp
  have news5 := news_wk w4 ⟨sk, sa, sw⟩ 64
  have n5 : Bo ≤ (w4.alloc (.cells #[.int .i64 sk, .int .i64 sa, .string sw] 64)).heap.size := Nat.le_trans hbw D5.size
  refine hKK.out _ _ ⟨f5.1, f5.2.1, f5.2.2.1, f5.2.2.2, fun _ => K5.cell 0⟩ ?_
  clear hKK KK
  try simp only [Act.put, List.setIfInBounds_toArray, List.set_cons_zero, List.set_cons_succ]
  refine wpAnyB_one (i := 8) false rfl (by kernel_rfl) (by kernel_rfl) ?_
  intro KK hKK
  refine step_appN rfl (.tmp 5) (.tmp 12) _ rfl Bo 64 (.agg #[.int .i64 0, .int .i64 0, .string ⟨#[]⟩]) 3 32 Try.underlying47 infoSt rfl (by omega) (by omega) (.slice A1 m c1) m (wksCells os) rfl O5 ⟨w4.heap.size, 0, none⟩ 1 1 (wkCells ⟨sk, sa, sw⟩) rfl rfl (fun j u hu => by rw [Addr.add_lit, Nat.zero_add]; exact news5 j u hu) (one_wk _) (by omega) n5 ?_
  intro v6 w6 ho6 hg6 _ _
  obtain ⟨A6, c6, hv6⟩ := own_form ho6
  subst hv6
  have D6 := D5.grown hg6 n5 (fun r hr => (O5.lt r hr).1)
  have K6 := K5.same (hg6.block bo K5.lt (fun e => (K5.ne_own O5 (by decide)) e.symm))
  have f6 := HFc.out _ D6
  have M6 := M5.same (hg6.block bm M5.lt (fun e => (M5.ne_own O5 (by decide)) e.symm))
  refine hKK.out _ _ ⟨f6.1, f6.2.1, f6.2.2.1, f6.2.2.2, fun _ => K6.cell 0⟩ ?_
  clear hKK KK
  try simp only [Act.put, List.setIfInBounds_toArray]
  refine wpAnyB_one (i := 9) true rfl (by kernel_rfl) (by kernel_rfl) ?_
  intro KK hKK
  have g0 := K6.cell 0
  have g1 := K6.free 0
  have g2 := K6.lt
  go_simp
  have D7 : Below Bo w (w6.setCell ⟨bo, 0, none⟩ (.slice A6 (m + 1) c6)) := D6.setCell (p := ⟨bo, 0, none⟩) hbo _
  have f7 := HFc.out _ D7
  refine hKK.out _ _ ⟨f7.1, f7.2.1, f7.2.2.1, f7.2.2.2, fun hh => by cases hh⟩ ?_
  clear hKK KK
  try simp only [Act.put, List.setIfInBounds_toArray, List.set_cons_zero, List.set_cons_succ]
  refine wpAnyB_done (by kernel_rfl) (NoPanic.normal ?_) _
  have VV : Value := .slice A6 (m + 1) c6
  have K7 := K6.set 0 (.slice A6 (m + 1) c6)
  have M7 := M6.far hne 0 (.slice A6 (m + 1) c6)
  have O7 := (But.set bo w6 0 (.slice A6 (m + 1) c6)).own ho6 (K6.ne_own ho6 (by decide))
  generalize w6.setCell ⟨bo, 0, none⟩ (.slice A6 (m + 1) c6) = w7 at *
  have m0 : w7.cell? ⟨bm, 0, none⟩ = some (.int .i64 (k : Int)) := M7.cell 0
  have m1 := M7.free 0
  have m2 := M7.lt
  have HD7 := Lib.hid D7
  have HK7 := Lib.hid K7
  have HM7 := Lib.hid M7
  have HO7 := Lib.hid O7
  clear f4 f5 f6 f7 zf zb g0 g1 g2 K4 K5 K6 M4 M5 M6 O4 O5 D4 D5 D6 D7 K7 M7 O7 ho6 hg6 n4 n5 y5 news5 VV
  go_wp2
  go_end0
  have DM : Below Bo w (w7.setCell ⟨bm, 0, none⟩ (.int .i64 ((k : Int) + 1))) := HD7.out.setCell (p := ⟨bm, 0, none⟩) hbm _
  refine ⟨rfl, ⟨⟨A6, c6, ?_, ?_⟩, HM7.out.set 0 _, HK.out.trans (KeepO.of_below DM)⟩, DM⟩
  · rw [List.length_append, ← HMM.out]
    exact HK7.out.far (fun e => hne e.symm) 0 _
  · rw [List.length_append, ← HMM.out, wksCells_app, ← HSX.out]
    exact (But.set bm w7 0 (.int .i64 ((k : Int) + 1))).own HO7.out (HM7.out.ne_own HO7.out (by decide))
end Go.Proofs.Ytnjenggijmbhcaa
