/-
  Contract of chapter 16: compile.Sheet.
-/
import Derived.Test.YtaenafcecfdffaaVB3
import Derived.Laws.OwnMore
namespace Go.Proofs.Ytaenafcecfdffaa
open Go.RowKit
theorem results_cell_tmp2 {fn : Func} {p u v : Tmp} {ty : TypeId} (h : fn.results = #[.cell p ty, .tmp u, .tmp v]) (tmps : Array Value) (P : Program) (w : World) :
    (results fn tmps).run P w =
      ((asAddr (tmps.getD p undef)).run P w).andThen fun a w₁ => ((loadVar ty a).run P w₁).andThen fun x w₂ => .ok (.tuple #[x, tmps.getD u undef, tmps.getD v undef]) w₂ := by
  simp only [results, h]
  simp [Sem.run_bind, Result.andThen]
theorem post_cell_tmp2 {P : Program} {fn : Func} {R : Ending → World → Prop} {a : Act} {w : World} {g : Nat} {t ty : TypeId} {p u1 u2 : Tmp} {cs : List Value} {v1 v2 : Value} {fs : Array Field} (hh : Has w g t cs) (hres : fn.results = #[.cell p ty, .tmp u1, .tmp u2])
    (hp : a.tmps.getD p undef = .pointer (some ⟨g, 0, none⟩)) (hv1 : a.tmps.getD u1 undef = v1) (hv2 : a.tmps.getD u2 undef = v2) (hd : a.defers = []) (hu : P.underlying ty = some (.struct fs)) (hi : (P.info? ty).map (·.size) = some cs.toArray.size)
    (hR : R (.returned (.tuple #[.agg cs.toArray, v1, v2])) w) : bodyPost P fn R .ret a w := by
  refine bodyPost_ret (v := .tuple #[.agg cs.toArray, v1, v2]) ?_ hd hR
  have hl := run_loadVar_row (P := P) w g t ty cs.toArray (0, 0) (.struct fs) hh hu rfl hi
  rw [results_cell_tmp2 hres, hp, hv1, hv2]
  simp [asAddr, hl, Result.andThen]
/-- the error of a step: hands as compile.Sheet has them, m works made -/
def cpE (p s h : Int) (m : Nat) (x : Wk) : Int :=
  if shapeB x.kind x.word = false then 2
  else if wchk x.word ≠ 0 then wchk x.word
  else if x.at_ < 0 ∨ p - 2 < x.at_ ∨ (x.kind = 1 ∧ p - s < x.at_) then 7
  else if x.kind ≠ 1 ∧ (x.at_ < h ∨ h + s ≤ x.at_ + 1) then 9
  else if x.kind ≠ 1 ∧ m = 400 then 3 else 0
def cpAll (p s : Int) : Int → Nat → List Wk → Int
  | _, _, [] => 0
  | h, m, x :: l => if cpE p s h m x ≠ 0 then cpE p s h m x else if x.kind = 1 then cpAll p s x.at_ m l else cpAll p s h (m + 1) l
def csE (p s : Int) (l : List Wk) : Int := if p < 2 ∨ 24 < p ∨ spB p s = false then 7 else if 1000 < l.length then 3 else cpAll p s (-s) 0 l
theorem cpAll_err {p s h : Int} {m : Nat} {x : Wk} {l : List Wk} {e : Int} (h1 : cpE p s h m x = e) (h2 : e ≠ 0) : cpAll p s h m (x :: l) = e := by
  unfold cpAll; rw [h1, if_pos h2]
theorem cpE_1 {p s h k a : Int} {m : Nat} {d : ByteArray} (h1 : shapeB k d = false) : cpE p s h m ⟨k, a, d⟩ = 2 := if_pos h1
theorem cpE_2 {p s h k a : Int} {m : Nat} {d : ByteArray} (h1 : shapeB k d = true) (h2 : wchk d ≠ 0) : cpE p s h m ⟨k, a, d⟩ = wchk d := by
  unfold cpE; rw [if_neg (by rw [h1]; decide), if_pos h2]
theorem cpE_3 {p s h k a : Int} {m : Nat} {d : ByteArray} (h1 : shapeB k d = true) (h2 : wchk d = 0) (h3 : a < 0 ∨ p - 2 < a ∨ (k = 1 ∧ p - s < a)) : cpE p s h m ⟨k, a, d⟩ = 7 := by
  unfold cpE; rw [if_neg (by rw [h1]; decide), if_neg (by rw [h2]; decide), if_pos h3]
theorem cpE_4 {p s h k a : Int} {m : Nat} {d : ByteArray} (h1 : shapeB k d = true) (h2 : wchk d = 0) (h3 : ¬ (a < 0 ∨ p - 2 < a ∨ (k = 1 ∧ p - s < a))) (h4 : k ≠ 1 ∧ (a < h ∨ h + s ≤ a + 1)) : cpE p s h m ⟨k, a, d⟩ = 9 := by
  unfold cpE; rw [if_neg (by rw [h1]; decide), if_neg (by rw [h2]; decide), if_neg h3, if_pos h4]
theorem cpE_5 {p s h k a : Int} {m : Nat} {d : ByteArray} (h1 : shapeB k d = true) (h2 : wchk d = 0) (h3 : ¬ (a < 0 ∨ p - 2 < a ∨ (k = 1 ∧ p - s < a))) (h4 : ¬ (k ≠ 1 ∧ (a < h ∨ h + s ≤ a + 1))) (h5 : k ≠ 1 ∧ m = 400) : cpE p s h m ⟨k, a, d⟩ = 3 := by
  unfold cpE; rw [if_neg (by rw [h1]; decide), if_neg (by rw [h2]; decide), if_neg h3, if_neg h4, if_pos h5]
theorem cpE_0 {p s h k a : Int} {m : Nat} {d : ByteArray} (h1 : shapeB k d = true) (h2 : wchk d = 0) (h3 : ¬ (a < 0 ∨ p - 2 < a ∨ (k = 1 ∧ p - s < a))) (h4 : ¬ (k ≠ 1 ∧ (a < h ∨ h + s ≤ a + 1))) (h5 : ¬ (k ≠ 1 ∧ m = 400)) : cpE p s h m ⟨k, a, d⟩ = 0 := by
  unfold cpE; rw [if_neg (by rw [h1]; decide), if_neg (by rw [h2]; decide), if_neg h3, if_neg h4, if_neg h5]
theorem cpAll_reach {p s a : Int} {d : ByteArray} {l : List Wk} (h1 : shapeB 1 d = true) (h2 : wchk d = 0) (h3 : ¬ (a < 0 ∨ p - 2 < a ∨ ((1 : Int) = 1 ∧ p - s < a))) (m : Nat) (h : Int) : cpAll p s h m (⟨1, a, d⟩ :: l) = cpAll p s a m l := by
  have e := cpE_0 (h := h) (m := m) h1 h2 h3 (by omega) (by omega)
  show (if cpE p s h m ⟨1, a, d⟩ ≠ 0 then _ else _) = _
  rw [e]; rfl
theorem cpAll_work {p s h k a : Int} {m : Nat} {d : ByteArray} {l : List Wk} (h1 : shapeB k d = true) (h2 : wchk d = 0) (h3 : ¬ (a < 0 ∨ p - 2 < a ∨ (k = 1 ∧ p - s < a))) (h4 : ¬ (k ≠ 1 ∧ (a < h ∨ h + s ≤ a + 1))) (h5 : ¬ (k ≠ 1 ∧ m = 400)) (h6 : k ≠ 1) : cpAll p s h m (⟨k, a, d⟩ :: l) = cpAll p s h (m + 1) l := by
  have e := cpE_0 h1 h2 h3 h4 h5
  show (if cpE p s h m ⟨k, a, d⟩ ≠ 0 then _ else if k = 1 then _ else _) = _
  rw [e, if_neg (by decide), if_neg h6]
theorem infoWk16 : (Try.prog.info? 86).map (fun i => (i.zero, i.size, i.bytes)) = some (some (.agg #[.int .i64 0, .int .i64 0, .string ⟨#[]⟩]), 3, 32) := by kernel_rfl
def RetCs (err : Int) (w : World) (e : Ending) (w' : World) : Prop := ∃ p A n c b, e = .returned (.tuple #[.agg #[.int .i64 p, .slice A n c], .int .i64 b, .int .i64 err]) ∧ Below w.heap.size w w'
set_option maxRecDepth 100000 in
set_option maxHeartbeats 4000000 in
theorem csheet (p s : Int) (A : Option Addr) (n c : Nat) (l : List Wk) (w : World) (hn : n ≤ 9223372036854775807) (hw : RdW w w.heap.size A l) (hl : l.length = n) (hs : ∀ x ∈ l, x.word.size ≤ 9223372036854775807) :
    Calls Try.prog 32 #[.int .i64 p, .int .i64 s, .slice A n c] w (RetCs (csE p s l) w) := by
  have HW := Lib.hid hw; clear hw
  have HL := Lib.hid hl; clear hl
  have HS := Lib.hid hs; clear hs
  by_cases h1 : p < 2
  · rw [show csE p s l = 7 from if_pos (.inl h1)]
    go_enter Try.func32, Try.ntmps32
    go_wp2
    refine post_cell_tmp2 (Has.new rfl) rfl rfl rfl rfl rfl Try.underlying24 (by kernel_rfl) ⟨_, _, _, _, _, rfl, by go_grown⟩
  by_cases h2 : 24 < p
  · rw [show csE p s l = 7 from if_pos (.inr (.inl h2))]
    go_enter Try.func32, Try.ntmps32
    go_wp2
    refine post_cell_tmp2 (Has.new rfl) rfl rfl rfl rfl rfl Try.underlying24 (by kernel_rfl) ⟨_, _, _, _, _, rfl, by go_grown⟩
  cases h3 : spB p s with
  | false =>
    rw [show csE p s l = 7 from if_pos (.inr (.inr h3))]
    go_enter Try.func32, Try.ntmps32
    go_wp2_with fail
    refine (spansC _ _ _).mono ?_
    rintro e w1 ⟨rfl, rfl⟩
    rw [h3]
    go_wp2
    refine post_cell_tmp2 (Has.new rfl) rfl rfl rfl rfl rfl Try.underlying24 (by kernel_rfl) ⟨_, _, _, _, _, rfl, by go_grown⟩
  | true =>
  by_cases h4 : 1000 < n
  · rw [show csE p s l = 3 by unfold csE; rw [if_neg (by rw [h3]; simp; omega), if_pos (by rw [HL.out]; omega)]]
    go_enter Try.func32, Try.ntmps32
    go_wp2_with fail
    refine (spansC _ _ _).mono ?_
    rintro e w1 ⟨rfl, rfl⟩
    rw [h3]
    go_wp2
    refine post_cell_tmp2 (Has.new rfl) rfl rfl rfl rfl rfl Try.underlying24 (by kernel_rfl) ⟨_, _, _, _, _, rfl, by go_grown⟩
  have hsp : 2 ≤ s ∧ s ≤ 8 ∧ s ≤ p := of_decide_eq_true h3
  rw [show csE p s l = cpAll p s (-s) 0 l by unfold csE; rw [if_neg (by rw [h3]; simp; omega), if_neg (by rw [HL.out]; omega)]]
  have i0 : IntKind.i64.wrap (-s) = -s := IntWalk.i64_in _ (by omega)
  have H3 := Lib.hid h3
  clear h3
  go_enter Try.func32, Try.ntmps32
  go_wp2_with fail
  refine (spansC _ _ _).mono ?_
  rintro e w1 ⟨rfl, rfl⟩
  rw [H3.out]
  go_wp2
  go_loopw [9, 10, 36] (fun hv v i wr => ∃ (k m : Nat) (h : Int) (A' : Option Addr) (c' : Nat) (ms : List Wk), k ≤ n ∧ m ≤ k ∧ m ≤ 400 ∧ -1000 ≤ h ∧ h ≤ 1000 ∧ i = .int .i64 (k : Int) ∧ hv = .int .i64 h ∧ v = .slice A' m c' ∧ Hid (wr.ownsRow w.heap.size 86 3 v m (wksCells ms)) ∧ Hid (Has wr w.heap.size 24 [.int .i64 0, .slice none 0 0]) ∧ Hid (cpAll p s h m (l.drop k) = cpAll p s (-s) 0 l) ∧ Hid (Below w.heap.size w wr)) (fun _ _ i _ => n - (intOf i).toNat)
  case atStart =>
    refine ⟨0, 0, -s, none, 0, [], Nat.zero_le _, Nat.le_refl _, by omega, by omega, by omega, rfl, rfl, rfl, ?_, ?_, ?_, ?_⟩
    · exact World.ownsRow_nil _ _ _ _
    · exact Has.new rfl
    · show _ = _
      rw [List.drop_zero]
    · show Below _ _ _
      go_grown
  case round =>
    obtain ⟨k, m, h, A', c', ms, hk, hmk, hm4, hh1, hh2, rfl, rfl, rfl, HO, HH, HP, HB⟩ := hrel
    obtain ⟨wo, rfl⟩ : ∃ wo : World, wo = wr := ⟨_, rfl⟩
    by_cases hlt : k < n
    · have jk : (k : Int) < (n : Int) := by omega
      obtain ⟨x, hx⟩ := get_of_lt (l := l) (k := k) (by rw [HL.out]; exact hlt)
      obtain ⟨b, o, hA, hb, c0, c1, c2⟩ := (HW.out.up HB.out) k x hx
      subst hA
      have hwd := HS.out x (mem_of_get hx)
      have HP2 : Hid (l.drop k = x :: l.drop (k + 1)) := List.drop_eq_getElem?_toList_append.trans (by rw [hx]; rfl)
      clear hx
      obtain ⟨kd, at_, wd⟩ := x
      simp only [] at c0 c1 c2 hwd
      have f0 := HH.out.free 0
      have f1 := HH.out.free 1
      have q0 := HH.out.lt
      have a0 : wo.cell? ⟨w.heap.size, 0, none⟩ = some (.int .i64 0) := HH.out.cell 0
      have a1 : wo.cell? ⟨w.heap.size, 1, none⟩ = some (.slice none 0 0) := HH.out.cell 1
      go_wp2_with fail
      refine (shapedC kd at_ wd _).mono ?_
      rintro e w1 ⟨rfl, hb1⟩
      have K12 : Has (wo.alloc (.cells #[.int .i64 kd, .int .i64 at_, .string wd] 35)) wo.heap.size 35 [.int .i64 kd, .int .i64 at_, .string wd] := Has.new rfl
      have K1 := Lib.hid (K12.below hb1 K12.lt)
      have H1 := Lib.hid ((HH.out.alloc (.cells #[.int .i64 kd, .int .i64 at_, .string wd] 35)).below hb1 (HH.out.alloc _).lt)
      have O1 := Lib.hid (own_below (HO.out.alloc (.cells #[.int .i64 kd, .int .i64 at_, .string wd] 35)) hb1)
      have B1 := Lib.hid (bvia (bvia HB.out (show Below wo.heap.size wo (wo.alloc (.cells #[.int .i64 kd, .int .i64 at_, .string wd] 35)) by go_grown)) hb1)
      have a0 : w1.cell? ⟨w.heap.size, 0, none⟩ = some (.int .i64 0) := H1.out.cell 0
      have a1 : w1.cell? ⟨w.heap.size, 1, none⟩ = some (.slice none 0 0) := H1.out.cell 1
      have f0 := H1.out.free 0
      have f1 := H1.out.free 1
      have q1 := H1.out.lt
      have y0 : w1.cell? ⟨wo.heap.size, 0, none⟩ = some (.int .i64 kd) := K1.out.cell 0
      have y1 : w1.cell? ⟨wo.heap.size, 1, none⟩ = some (.int .i64 at_) := K1.out.cell 1
      have y2 : w1.cell? ⟨wo.heap.size, 2, none⟩ = some (.string wd) := K1.out.cell 2
      have q2 := K1.out.lt
      have q3 := hb1.size
      clear hb1 K12 HH HO HB
      cases hsh : shapeB kd wd with
      | false =>
        have HQ : Hid (cpAll p s (-s) 0 l = 2) := by
          show _ = _
          rw [← HP.out, HP2.out]
          exact cpAll_err (cpE_1 hsh) (by first | omega | decide)
        go_wp2
        rw [HQ.out]
        exact post_cell_tmp2 ((H1.out.set 0 _).set 1 _) rfl rfl rfl rfl rfl Try.underlying24 (by kernel_rfl) ⟨_, _, _, _, _, rfl, (B1.out.setCell (p := ⟨w.heap.size, 0, none⟩) (Nat.le_refl _) _).setCell (p := ⟨w.heap.size, 1, none⟩) (Nat.le_refl _) _⟩
      | true =>
        have HSH := Lib.hid hsh
        clear hsh
        go_wp2_with fail
        refine (stCheck wd _ hwd).mono ?_
        rintro e w2 ⟨rfl, rfl⟩
        by_cases hwc : wchk wd = 0
        case neg =>
          have HWC := Lib.hid hwc
          have HQ : Hid (cpAll p s (-s) 0 l = wchk wd) := by
            show _ = _
            rw [← HP.out, HP2.out]
            exact cpAll_err (cpE_2 HSH.out HWC.out) HWC.out
          go_wp2
          rw [HQ.out]
          exact post_cell_tmp2 ((H1.out.set 0 _).set 1 _) rfl rfl rfl rfl rfl Try.underlying24 (by kernel_rfl) ⟨_, _, _, _, _, rfl, (B1.out.setCell (p := ⟨w.heap.size, 0, none⟩) (Nat.le_refl _) _).setCell (p := ⟨w.heap.size, 1, none⟩) (Nat.le_refl _) _⟩
        rw [hwc]
        have HWC := Lib.hid hwc
        clear hwc
        have i1 : IntKind.i64.wrap (p - 2) = p - 2 := IntWalk.i64_in _ (by omega)
        have i2 : IntKind.i64.wrap (p - s) = p - s := IntWalk.i64_in _ (by omega)
        have i4 : IntKind.i64.wrap (h + s) = h + s := IntWalk.i64_in _ (by omega)
        by_cases e1 : at_ < 0
        · have HQ : Hid (cpAll p s (-s) 0 l = 7) := by
            show _ = _
            rw [← HP.out, HP2.out]
            exact cpAll_err (cpE_3 HSH.out HWC.out (.inl e1)) (by first | omega | decide)
          go_wp2
          rw [HQ.out]
          exact post_cell_tmp2 ((H1.out.set 0 _).set 1 _) rfl rfl rfl rfl rfl Try.underlying24 (by kernel_rfl) ⟨_, _, _, _, _, rfl, (B1.out.setCell (p := ⟨w.heap.size, 0, none⟩) (Nat.le_refl _) _).setCell (p := ⟨w.heap.size, 1, none⟩) (Nat.le_refl _) _⟩
        have d1 : decide (at_ < 0) = false := decide_eq_false e1
        by_cases e2 : p - 2 < at_
        · have HQ : Hid (cpAll p s (-s) 0 l = 7) := by
            show _ = _
            rw [← HP.out, HP2.out]
            exact cpAll_err (cpE_3 HSH.out HWC.out (.inr (.inl e2))) (by first | omega | decide)
          go_wp2
          rw [HQ.out]
          exact post_cell_tmp2 ((H1.out.set 0 _).set 1 _) rfl rfl rfl rfl rfl Try.underlying24 (by kernel_rfl) ⟨_, _, _, _, _, rfl, (B1.out.setCell (p := ⟨w.heap.size, 0, none⟩) (Nat.le_refl _) _).setCell (p := ⟨w.heap.size, 1, none⟩) (Nat.le_refl _) _⟩
        have d2 : decide (p - 2 < at_) = false := decide_eq_false e2
        have i3 : IntKind.i64.wrap (at_ + 1) = at_ + 1 := IntWalk.i64_in _ (by omega)
        by_cases k1 : kd = 1
        · subst k1
          by_cases e3 : p - s < at_
          · have HQ : Hid (cpAll p s (-s) 0 l = 7) := by
              show _ = _
              rw [← HP.out, HP2.out]
              exact cpAll_err (cpE_3 HSH.out HWC.out (.inr (.inr ⟨rfl, e3⟩))) (by first | omega | decide)
            go_wp2
            rw [HQ.out]
            exact post_cell_tmp2 ((H1.out.set 0 _).set 1 _) rfl rfl rfl rfl rfl Try.underlying24 (by kernel_rfl) ⟨_, _, _, _, _, rfl, (B1.out.setCell (p := ⟨w.heap.size, 0, none⟩) (Nat.le_refl _) _).setCell (p := ⟨w.heap.size, 1, none⟩) (Nat.le_refl _) _⟩
          have d3 : decide (p - s < at_) = false := decide_eq_false e3
          have HQ := Lib.hid (cpAll_reach (l := l.drop (k + 1)) HSH.out HWC.out (show ¬ (at_ < 0 ∨ p - 2 < at_ ∨ ((1 : Int) = 1 ∧ p - s < at_)) by omega) m h)
          go_wp2
          go_roundw
          case rel =>
            refine ⟨k + 1, m, at_, A', c', ms, by omega, by omega, hm4, by omega, by omega, rfl, rfl, rfl, O1, H1, ?_, B1⟩
            show _ = _
            rw [← HP.out, HP2.out, HQ.out]
          case measure => first | (simp [intOf]; done) | (simp [intOf]; omega)
        have k1b : (kd == 1) = false := by simpa using k1
        by_cases e4 : at_ < h
        · have HQ : Hid (cpAll p s (-s) 0 l = 9) := by
            show _ = _
            rw [← HP.out, HP2.out]
            exact cpAll_err (cpE_4 HSH.out HWC.out (by omega) ⟨k1, .inl e4⟩) (by first | omega | decide)
          go_wp2
          rw [HQ.out]
          exact post_cell_tmp2 ((H1.out.set 0 _).set 1 _) rfl rfl rfl rfl rfl Try.underlying24 (by kernel_rfl) ⟨_, _, _, _, _, rfl, (B1.out.setCell (p := ⟨w.heap.size, 0, none⟩) (Nat.le_refl _) _).setCell (p := ⟨w.heap.size, 1, none⟩) (Nat.le_refl _) _⟩
        have d4 : decide (at_ < h) = false := decide_eq_false e4
        by_cases e5 : h + s ≤ at_ + 1
        · have HQ : Hid (cpAll p s (-s) 0 l = 9) := by
            show _ = _
            rw [← HP.out, HP2.out]
            exact cpAll_err (cpE_4 HSH.out HWC.out (by omega) ⟨k1, .inr e5⟩) (by first | omega | decide)
          go_wp2
          rw [HQ.out]
          exact post_cell_tmp2 ((H1.out.set 0 _).set 1 _) rfl rfl rfl rfl rfl Try.underlying24 (by kernel_rfl) ⟨_, _, _, _, _, rfl, (B1.out.setCell (p := ⟨w.heap.size, 0, none⟩) (Nat.le_refl _) _).setCell (p := ⟨w.heap.size, 1, none⟩) (Nat.le_refl _) _⟩
        have d5 : decide (h + s ≤ at_ + 1) = false := decide_eq_false e5
        by_cases e6 : m = 400
        · have HQ : Hid (cpAll p s (-s) 0 l = 3) := by
            show _ = _
            rw [← HP.out, HP2.out]
            exact cpAll_err (cpE_5 HSH.out HWC.out (by omega) (by omega) ⟨k1, e6⟩) (by first | omega | decide)
          go_wp2
          rw [HQ.out]
          exact post_cell_tmp2 ((H1.out.set 0 _).set 1 _) rfl rfl rfl rfl rfl Try.underlying24 (by kernel_rfl) ⟨_, _, _, _, _, rfl, (B1.out.setCell (p := ⟨w.heap.size, 0, none⟩) (Nat.le_refl _) _).setCell (p := ⟨w.heap.size, 1, none⟩) (Nat.le_refl _) _⟩
        have d6 : ((m : Int) == 400) = false := by simp; omega
        have HQ := Lib.hid (cpAll_work (l := l.drop (k + 1)) HSH.out HWC.out (show ¬ (at_ < 0 ∨ p - 2 < at_ ∨ (kd = 1 ∧ p - s < at_)) by omega) (show ¬ (kd ≠ 1 ∧ (at_ < h ∨ h + s ≤ at_ + 1)) by omega) (show ¬ (kd ≠ 1 ∧ m = 400) by omega) k1)
        by_cases k3 : kd = 3
        · subst k3
          go_wp2_with (at_builtin; refine wpList_app rfl (.tmp 127) (.tmp 131) _ rfl w.heap.size 86 (.agg #[.int .i64 0, .int .i64 0, .string ⟨#[]⟩]) 3 32 Try.underlying22 infoWk16 rfl (by omega) (by omega) (.slice A' m c') _ _ rfl (O1.out.alloc _) w1.heap.size (wkCells ⟨2, at_, ⟨#[]⟩⟩) rfl rfl (news_wk _ ⟨2, at_, ⟨#[]⟩⟩ _) (one_wk _) (by omega) (by simp; omega) ?_; intro g1 cap1 w3 hg1 hown1 hgrow1 hor1)
          go_roundw
          case rel =>
            refine ⟨k + 1, m + 1, h, _, cap1, ms ++ [⟨2, at_, ⟨#[]⟩⟩], by omega, by omega, by omega, hh1, hh2, rfl, rfl, rfl, ?_, ?_, ?_, ?_⟩
            · show World.ownsRow _ _ _ _ _ _ _
              rw [wksCells_app]; exact hown1
            · show Has _ _ _ _
              exact (H1.out.alloc (.cells #[.int .i64 2, .int .i64 at_, .string ⟨#[]⟩] 86)).same (hgrow1.block _ (H1.out.alloc (.cells #[.int .i64 2, .int .i64 at_, .string ⟨#[]⟩] 86)).lt (fun e => (H1.out.alloc (.cells #[.int .i64 2, .int .i64 at_, .string ⟨#[]⟩] 86)).ne_own (O1.out.alloc (.cells #[.int .i64 2, .int .i64 at_, .string ⟨#[]⟩] 86)) (by decide) e.symm))
            · show _ = _
              rw [← HP.out, HP2.out, HQ.out]
            · show Below _ _ _
              exact (B1.out.alloc (by have := B1.out.size; omega) (.cells #[.int .i64 2, .int .i64 at_, .string ⟨#[]⟩] 86)).grown hgrow1 (by simp; omega) (fun k hk => (O1.out.lt k hk).1)
          case measure => first | (simp [intOf]; done) | (simp [intOf]; omega)
        · have k3b : (kd == 3) = false := by simpa using k3
          go_wp2_with (at_builtin; refine wpList_app rfl (.tmp 57) (.tmp 63) _ rfl w.heap.size 86 (.agg #[.int .i64 0, .int .i64 0, .string ⟨#[]⟩]) 3 32 Try.underlying22 infoWk16 rfl (by omega) (by omega) (.slice A' m c') _ _ rfl (O1.out.alloc _) w1.heap.size (wkCells ⟨1, at_, wd⟩) rfl rfl (news_wk _ ⟨1, at_, wd⟩ _) (one_wk _) (by omega) (by simp; omega) ?_; intro g1 cap1 w3 hg1 hown1 hgrow1 hor1)
          go_roundw
          case rel =>
            refine ⟨k + 1, m + 1, h, _, cap1, ms ++ [⟨1, at_, wd⟩], by omega, by omega, by omega, hh1, hh2, rfl, rfl, rfl, ?_, ?_, ?_, ?_⟩
            · show World.ownsRow _ _ _ _ _ _ _
              rw [wksCells_app]; exact hown1
            · show Has _ _ _ _
              exact (H1.out.alloc (.cells #[.int .i64 1, .int .i64 at_, .string wd] 86)).same (hgrow1.block _ (H1.out.alloc (.cells #[.int .i64 1, .int .i64 at_, .string wd] 86)).lt (fun e => (H1.out.alloc (.cells #[.int .i64 1, .int .i64 at_, .string wd] 86)).ne_own (O1.out.alloc (.cells #[.int .i64 1, .int .i64 at_, .string wd] 86)) (by decide) e.symm))
            · show _ = _
              rw [← HP.out, HP2.out, HQ.out]
            · show Below _ _ _
              exact (B1.out.alloc (by have := B1.out.size; omega) (.cells #[.int .i64 1, .int .i64 at_, .string wd] 86)).grown hgrow1 (by simp; omega) (fun k hk => (O1.out.lt k hk).1)
          case measure => first | (simp [intOf]; done) | (simp [intOf]; omega)
    · obtain rfl : k = n := by omega
      have jk : ¬ (k : Int) < (k : Int) := by omega
      have HQ : Hid (cpAll p s (-s) 0 l = 0) := by
        show _ = _
        rw [← HP.out, List.drop_of_length_le (by rw [HL.out]; exact Nat.le_refl _)]; rfl
      have f0 := HH.out.free 0
      have f1 := HH.out.free 1
      have q0 := HH.out.lt
      have a0 : wo.cell? ⟨w.heap.size, 0, none⟩ = some (.int .i64 0) := HH.out.cell 0
      have a1 : wo.cell? ⟨w.heap.size, 1, none⟩ = some (.slice none 0 0) := HH.out.cell 1
      go_wp2
      rw [HQ.out]
      refine post_cell_tmp2 ((HH.out.set 0 _).set 1 _) rfl rfl rfl rfl rfl Try.underlying24 (by kernel_rfl) ⟨_, _, _, _, _, rfl, ?_⟩
      exact (HB.out.setCell (p := ⟨w.heap.size, 0, none⟩) (Nat.le_refl _) _).setCell (p := ⟨w.heap.size, 1, none⟩) (Nat.le_refl _) _
end Go.Proofs.Ytaenafcecfdffaa
/-
  Words of chapter 16: a block whose fields hold rows of the call's own; what a call may change.
-/
namespace Go.Proofs.Ytaenafcecfdffaa
open Go.RowKit
/-- all but some blocks are as they were -/
structure KeepB (S : Nat → Prop) (V W : World) : Prop where
  os : W.os = V.os
  tape : W.tape = V.tape
  output : W.output = V.output
  size : V.heap.size ≤ W.heap.size
  block : ∀ r, r < V.heap.size → ¬ S r → W.heap[r]? = V.heap[r]?
theorem KeepB.refl (S : Nat → Prop) (V : World) : KeepB S V V := ⟨rfl, rfl, rfl, Nat.le_refl _, fun _ _ _ => rfl⟩
theorem KeepB.trans {S : Nat → Prop} {a b c : World} (h : KeepB S a b) (k : KeepB S b c) : KeepB S a c :=
  ⟨k.os.trans h.os, k.tape.trans h.tape, k.output.trans h.output, Nat.le_trans h.size k.size, fun r hr hn => (k.block r (Nat.lt_of_lt_of_le hr h.size) hn).trans (h.block r hr hn)⟩
theorem KeepB.of_below {S : Nat → Prop} {V W : World} (h : Below V.heap.size V W) : KeepB S V W := ⟨h.os, h.tape, h.output, h.size, fun r hr _ => h.block r hr⟩
theorem KeepB.grown {S : Nat → Prop} {V W : World} {row : Option Nat} (h : V.grownBy W row) (hs : ∀ r, some r = row → S r) : KeepB S V W := ⟨h.os, h.tape, h.output, h.size, fun r hr hn => h.block r hr (fun e => hn (hs r e))⟩
theorem KeepB.set {S : Nat → Prop} (V : World) {g : Nat} (hg : S g) (i : Nat) (u : Value) : KeepB S V (V.setCell ⟨g, i, none⟩ u) :=
  ⟨rfl, rfl, rfl, by simp [World.setCell], fun r _ hn => Below.heap_setCell V _ u r (fun e => hn (by rw [e]; exact hg))⟩
theorem KeepB.drew {S : Nat → Prop} {V W : World} (h : KeepB S V W) : KeepB S V W.drew := ⟨h.os, h.tape, h.output, h.size, h.block⟩
theorem KeepB.drewN {S : Nat → Prop} {V W : World} (h : KeepB S V W) (n : Nat) : KeepB S V (W.drewN n) := ⟨h.os, h.tape, h.output, h.size, h.block⟩
theorem KeepB.mono {S T : Nat → Prop} {V W : World} (h : KeepB S V W) (hs : ∀ r, S r → T r) : KeepB T V W := ⟨h.os, h.tape, h.output, h.size, fun r hr hn => h.block r hr (fun e => hn (hs r e))⟩
/-- from a world in which the changed blocks are new -/
theorem KeepB.below {S : Nat → Prop} {V W : World} (h : KeepB S V W) {B : Nat} (hs : ∀ r, S r → B ≤ r) (hB : B ≤ V.heap.size) : Below B V W :=
  ⟨h.os, h.tape, h.output, h.size, fun r hr => h.block r (by omega) (fun e => by have := hs r e; omega)⟩
theorem KeepB.own {S : Nat → Prop} {V W : World} (h : KeepB S V W) {base : Nat} {e : TypeId} {size n : Nat} {v : Value} {xs : List Value} (ho : V.ownsRow base e size v n xs) (hn : ∀ r, v.ownBlock = some r → ¬ S r) : W.ownsRow base e size v n xs :=
  own_same ho (fun r hr => h.block r (ho.lt r hr).2 (hn r hr))
theorem KeepB.has {S : Nat → Prop} {V W : World} (h : KeepB S V W) {g : Nat} {t : TypeId} {cs : List Value} (hh : Has V g t cs) (hn : ¬ S g) : Has W g t cs := hh.same (h.block g hh.lt hn)
theorem KeepB.cell {S : Nat → Prop} {V W : World} (h : KeepB S V W) {b o : Nat} (hb : b < V.heap.size) (hn : ¬ S b) : W.cell? ⟨b, o, none⟩ = V.cell? ⟨b, o, none⟩ := World.cell?_of_block (h.block b hb hn)
/-- a row that a field holds -/
structure RowD where
  e : TypeId
  size : Nat
  v : Value
  n : Nat
  xs : List Value
/-- block g: first plain fields, then fields that hold rows of the call's own, of different kinds -/
structure RowsH (W : World) (B g : Nat) (T : TypeId) (hd : List Value) (rs : List RowD) : Prop where
  c : Has W g T (hd ++ rs.map RowD.v)
  o : ∀ (i : Nat) (r : RowD), rs[i]? = some r → W.ownsRow B r.e r.size r.v r.n r.xs
  d : ∀ (i j : Nat) (r s : RowD), rs[i]? = some r → rs[j]? = some s → i ≠ j → r.e ≠ s.e
  t : ∀ (i : Nat) (r : RowD), rs[i]? = some r → T ≠ r.e
  b : B ≤ g
  z : B ≤ W.heap.size
section
variable {W W' : World} {B g : Nat} {T : TypeId} {hd : List Value} {rs : List RowD}
theorem RowsH.below (h : RowsH W B g T hd rs) (k : Below W.heap.size W W') : RowsH W' B g T hd rs :=
  ⟨h.c.below k h.c.lt, fun i r hi => own_below (h.o i r hi) k, h.d, h.t, h.b, Nat.le_trans h.z k.size⟩
theorem RowsH.drew (h : RowsH W B g T hd rs) : RowsH W.drew B g T hd rs := ⟨h.c.drew, h.o, h.d, h.t, h.b, h.z⟩
theorem RowsH.drewN (h : RowsH W B g T hd rs) (n : Nat) : RowsH (W.drewN n) B g T hd rs := ⟨h.c.drewN n, h.o, h.d, h.t, h.b, h.z⟩
theorem RowsH.ne (h : RowsH W B g T hd rs) {i : Nat} {r : RowD} (hi : rs[i]? = some r) : r.v.ownBlock ≠ some g := h.c.ne_own (h.o i r hi) (h.t i r hi)
theorem RowsH.apart (h : RowsH W B g T hd rs) {i j : Nat} {r s : RowD} (hi : rs[i]? = some r) (hj : rs[j]? = some s) (hne : i ≠ j) {b : Nat} (hb : r.v.ownBlock = some b) : s.v.ownBlock ≠ some b := own_apart (h.o i r hi) (h.o j s hj) (h.d i j r s hi hj hne) hb
theorem RowsH.cell (h : RowsH W B g T hd rs) (j : Nat) : W.cell? ⟨g, j, none⟩ = (hd ++ rs.map RowD.v)[j]? := h.c.cell j
/-- a row is grown, and laid back into its field -/
theorem RowsH.grow (h : RowsH W B g T hd rs) {i : Nat} {r : RowD} (hi : rs[i]? = some r) (k : W.grownBy W' r.v.ownBlock) {v' : Value} {n' : Nat} {xs' : List Value} (o' : W'.ownsRow B r.e r.size v' n' xs') (j : Nat) (hj : j = hd.length + i) :
    RowsH (W'.setCell ⟨g, j, none⟩ v') B g T hd (rs.set i ⟨r.e, r.size, v', n', xs'⟩) := by
  subst hj
  have hg : Has W' g T (hd ++ rs.map RowD.v) := h.c.same (k.block g h.c.lt (fun e => h.ne hi e.symm))
  have hlt : i < rs.length := lt_of_get hi
  have hne' : v'.ownBlock ≠ some g := hg.ne_own o' (h.t i r hi)
  refine ⟨?_, ?_, ?_, ?_, h.b, ?_⟩
  · have h1 := hg.set (hd.length + i) v'
    rw [List.map_set]
    rw [List.set_append_right _ _ (by omega), Nat.add_sub_cancel_left] at h1
    exact h1
  · intro m s hm
    rw [List.getElem?_set] at hm
    by_cases e : i = m
    · subst e
      rw [if_pos rfl, if_pos hlt] at hm
      injection hm with hm
      subst hm
      exact ownsRow_setCell_other o' hne' _
    · rw [if_neg e] at hm
      have o1 := (h.o m s hm).kept k (by
        cases hb : s.v.ownBlock with
        | none => exact .inl rfl
        | some b => exact .inr (fun e2 => h.apart hm hi (fun e3 => e e3.symm) hb e2.symm))
      exact ownsRow_setCell_other o1 (h.ne hm) _
  · intro a b r1 s1 ha hb hab
    rw [List.getElem?_set] at ha hb
    by_cases e : i = a
    · subst e
      rw [if_pos rfl, if_pos hlt] at ha
      injection ha with ha
      rw [if_neg hab] at hb
      subst ha
      exact h.d i b r s1 hi hb hab
    · rw [if_neg e] at ha
      by_cases e2 : i = b
      · subst e2
        rw [if_pos rfl, if_pos hlt] at hb
        injection hb with hb
        subst hb
        exact h.d a i r1 r ha hi hab
      · rw [if_neg e2] at hb
        exact h.d a b r1 s1 ha hb hab
  · intro m s hm
    rw [List.getElem?_set] at hm
    by_cases e : i = m
    · subst e
      rw [if_pos rfl, if_pos hlt] at hm
      injection hm with hm
      subst hm
      exact h.t i r hi
    · rw [if_neg e] at hm
      exact h.t m s hm
  · have : W'.heap.size = (W'.setCell ⟨g, hd.length + i, none⟩ v').heap.size := by simp [World.setCell]
    rw [← this]
    exact Nat.le_trans h.z k.size
/-- a cell of a row is written -/
theorem RowsH.stored (h : RowsH W B g T hd rs) {i : Nat} {r : RowD} (hi : rs[i]? = some r) {b cap : Nat} (hv : r.v = .slice (some ⟨b, 0, none⟩) r.n cap) (j : Nat) (u : Value) :
    RowsH (W.setCell ⟨b, j, none⟩ u) B g T hd (rs.set i ⟨r.e, r.size, r.v, r.n, r.xs.set j u⟩) := by
  have hlt : i < rs.length := lt_of_get hi
  have hbk : r.v.ownBlock = some b := by rw [hv]; rfl
  have hbg : b ≠ g := fun e => h.ne hi (by rw [hbk, e])
  have hsz : (W.setCell ⟨b, j, none⟩ u).heap.size = W.heap.size := by simp [World.setCell]
  refine ⟨?_, ?_, ?_, ?_, h.b, by rw [hsz]; exact h.z⟩
  · rw [List.map_set]
    have : (rs.map RowD.v).set i r.v = rs.map RowD.v := by
      apply List.ext_getElem?
      intro m
      rw [List.getElem?_set]
      by_cases e : i = m
      · subst e; rw [if_pos rfl, if_pos (by simpa using hlt), List.getElem?_map, hi]; rfl
      · rw [if_neg e]
    rw [this]
    exact h.c.far (fun e => hbg e.symm) j u
  · intro m s hm
    rw [List.getElem?_set] at hm
    by_cases e : i = m
    · subst e
      rw [if_pos rfl, if_pos hlt] at hm
      injection hm with hm
      subst hm
      have ho := h.o i r hi
      show World.ownsRow _ _ _ _ _ _ _
      simp only []
      rw [hv] at ho ⊢
      exact (ho.stored j u).1
    · rw [if_neg e] at hm
      refine ownsRow_setCell_other (h.o m s hm) ?_ _
      intro e2
      exact h.apart hi hm e hbk e2
  · intro a c r1 s1 ha hc hac
    rw [List.getElem?_set] at ha hc
    by_cases e : i = a
    · subst e
      rw [if_pos rfl, if_pos hlt] at ha
      injection ha with ha
      rw [if_neg hac] at hc
      subst ha
      exact h.d i c r s1 hi hc hac
    · rw [if_neg e] at ha
      by_cases e2 : i = c
      · subst e2
        rw [if_pos rfl, if_pos hlt] at hc
        injection hc with hc
        subst hc
        exact h.d a i r1 r ha hi hac
      · rw [if_neg e2] at hc
        exact h.d a c r1 s1 ha hc hac
  · intro m s hm
    rw [List.getElem?_set] at hm
    by_cases e : i = m
    · subst e
      rw [if_pos rfl, if_pos hlt] at hm
      injection hm with hm
      subst hm
      exact h.t i r hi
    · rw [if_neg e] at hm
      exact h.t m s hm
/-- a plain field is written -/
theorem RowsH.head (h : RowsH W B g T hd rs) (j : Nat) (hj : j < hd.length) (u : Value) : RowsH (W.setCell ⟨g, j, none⟩ u) B g T (hd.set j u) rs := by
  have h1 := h.c.set j u
  rw [List.set_append_left _ _ hj] at h1
  exact ⟨h1, fun i r hi => ownsRow_setCell_other (h.o i r hi) (h.ne hi) _, h.d, h.t, h.b, by simpa [World.setCell] using h.z⟩
/-- other blocks change -/
theorem RowsH.keep {S : Nat → Prop} (h : RowsH W B g T hd rs) (k : KeepB S W W') (hg : ¬ S g) (ho : ∀ (i : Nat) (r : RowD) (b : Nat), rs[i]? = some r → r.v.ownBlock = some b → ¬ S b) : RowsH W' B g T hd rs :=
  ⟨k.has h.c hg, fun i r hi => k.own (h.o i r hi) (fun b hb => ho i r b hi hb), h.d, h.t, h.b, Nat.le_trans h.z k.size⟩
/-- its blocks -/
def RowsH.blk (g : Nat) (rs : List RowD) (b : Nat) : Prop := b = g ∨ ∃ (i : Nat) (r : RowD), rs[i]? = some r ∧ r.v.ownBlock = some b
theorem RowsH.blk_ge (h : RowsH W B g T hd rs) {b : Nat} (hb : RowsH.blk g rs b) : B ≤ b := by
  rcases hb with rfl | ⟨i, r, hi, hv⟩
  · exact h.b
  · exact ((h.o i r hi).lt b hv).1
end
/-! ### what a call on a pillow may change -/
/-- block g, and the blocks of its rows -/
def blkV (g : Nat) (vs : List Value) (b : Nat) : Prop := b = g ∨ ∃ v, v ∈ vs ∧ v.ownBlock = some b
/-- only those blocks have changed, and those of now are theirs, or new -/
structure Grown (g : Nat) (W0 : World) (vs0 : List Value) (W : World) (vs : List Value) : Prop where
  keep : KeepB (blkV g vs0) W0 W
  fresh : ∀ b, blkV g vs b → blkV g vs0 b ∨ W0.heap.size ≤ b
theorem Grown.trans {g : Nat} {W0 W1 W2 : World} {a b c : List Value} (h : Grown g W0 a W1 b) (k : Grown g W1 b W2 c) : Grown g W0 a W2 c := by
  refine ⟨⟨k.keep.os.trans h.keep.os, k.keep.tape.trans h.keep.tape, k.keep.output.trans h.keep.output, Nat.le_trans h.keep.size k.keep.size, fun r hr hn => ?_⟩, fun x hx => ?_⟩
  · refine (k.keep.block r (Nat.lt_of_lt_of_le hr h.keep.size) (fun e => ?_)).trans (h.keep.block r hr hn)
    rcases h.fresh r e with e | e
    · exact hn e
    · omega
  · rcases k.fresh x hx with e | e
    · exact h.fresh x e
    · exact .inr (Nat.le_trans h.keep.size e)
theorem Grown.below {g : Nat} {W W' : World} {vs : List Value} (h : Below W.heap.size W W') : Grown g W vs W' vs := ⟨KeepB.of_below h, fun _ hx => .inl hx⟩
theorem Grown.grow {g : Nat} {W W' : World} {vs : List Value} {i : Nat} {v v' : Value} (hi : vs[i]? = some v) (k : W.grownBy W' v.ownBlock) (hor : v'.ownBlock = v.ownBlock ∨ v'.ownBlock = some W.heap.size) (j : Nat) : Grown g W vs (W'.setCell ⟨g, j, none⟩ v') (vs.set i v') := by
  refine ⟨(KeepB.grown k (fun r hr => .inr ⟨v, mem_of_get hi, hr.symm⟩)).trans (KeepB.set W' (.inl rfl) j v'), fun b hb => ?_⟩
  rcases hb with rfl | ⟨u, hu, hb⟩
  · exact .inl (.inl rfl)
  · rcases List.mem_or_eq_of_mem_set hu with hu | hu
    · exact .inl (.inr ⟨u, hu, hb⟩)
    · subst hu
      rcases hor with e | e
      · exact .inl (.inr ⟨v, mem_of_get hi, by rw [← e]; exact hb⟩)
      · rw [e] at hb
        injection hb with hb
        exact .inr (by omega)
theorem Grown.cells {g : Nat} {W : World} {vs : List Value} {b : Nat} (hb : blkV g vs b) (j : Nat) (u : Value) : Grown g W vs (W.setCell ⟨b, j, none⟩ u) vs := ⟨KeepB.set W hb j u, fun _ hx => .inl hx⟩
theorem Grown.drewN {g : Nat} {W : World} {vs : List Value} (n : Nat) : Grown g W vs (W.drewN n) vs := ⟨(KeepB.refl _ W).drewN n, fun _ hx => .inl hx⟩
theorem Grown.drew {g : Nat} {W0 W : World} {a b : List Value} (h : Grown g W0 a W b) : Grown g W0 a W.drew b := ⟨h.keep.drew, h.fresh⟩
/-- other rows stay the caller's -/
theorem Grown.own {g : Nat} {W W' : World} {a c : List Value} (h : Grown g W a W' c) {base : Nat} {e : TypeId} {size n : Nat} {v : Value} {xs : List Value} (ho : W.ownsRow base e size v n xs) (hn : ∀ r, v.ownBlock = some r → ¬ blkV g a r) : W'.ownsRow base e size v n xs := h.keep.own ho hn
/-! ### a pillow -/
/-- an element of a pillow's pins -/
structure Pn where
  q : Q4
  sew : Bool
  out : Bool
def pnC (x : Pn) : List Value := [.int .i64 x.q.a, .int .i64 x.q.b, .int .i64 x.q.c, .int .i64 x.q.d, .bool x.sew, .bool x.out]
def pnsC (l : List Pn) : List Value := l.flatMap pnC
theorem pnsC_app (l : List Pn) (x : Pn) : pnsC (l ++ [x]) = pnsC l ++ pnC x := by simp [pnsC]
theorem infoPin : (Try.prog.info? 91).map (fun i => (i.zero, i.size, i.bytes)) = some (some (.agg #[.int .i64 0, .int .i64 0, .int .i64 0, .int .i64 0, .bool false, .bool false]), 6, 40) := by kernel_rfl
theorem infoCs : (Try.prog.info? 35).map (fun i => (i.zero, i.size, i.bytes)) = some (some (.agg #[.int .i64 0, .int .i64 0, .string ⟨#[]⟩]), 3, 32) := by kernel_rfl
theorem infoMark : (Try.prog.info? 83).map (fun i => (i.zero, i.size, i.bytes)) = some (some (.agg #[.int .i64 0, .int .i64 0, .int .i64 0, .int .i64 0]), 4, 32) := by kernel_rfl
theorem infoCrs : (Try.prog.info? 47).map (fun i => (i.zero, i.size, i.bytes)) = some (some (.agg #[.int .i64 0, .int .i64 0, .int .i64 0, .int .i64 0]), 4, 32) := by kernel_rfl
/-- what a pillow knows -/
structure Pil where
  hands : Int
  steps : List Wk
  marks : List Q4
  works : List Wk
  l : List Int
  xs : List Q4
  ps : List Pn
def pilRows (z : Pil) (S M V L X P : Value) : List RowD :=
  [⟨35, 3, S, z.steps.length, wksCells z.steps⟩, ⟨83, 4, M, z.marks.length, qsC z.marks⟩, ⟨86, 3, V, z.works.length, wksCells z.works⟩,
   ⟨3, 1, L, z.l.length, z.l.map vInt⟩, ⟨47, 4, X, z.xs.length, qsC z.xs⟩, ⟨91, 6, P, z.ps.length, pnsC z.ps⟩]
/-- the pillow at block g, of blocks from B on -/
def PilH (W : World) (B g : Nat) (p s : Int) (z : Pil) (S M V L X P : Value) : Prop := RowsH W B g 81 [.int .i64 p, .int .i64 s, .int .i64 z.hands] (pilRows z S M V L X P)
def Pil.stick (z : Pil) (mid : Nat) (sew : Bool) : Pil := { z with ps := z.ps ++ [⟨⟨(z.works.length : Int), (mid : Int), z.l.getD mid 0, z.l.getD (mid + 1) 0⟩, sew, false⟩] }
/-- a crossing at place t -/
def Pil.cross (z : Pil) (t : Nat) (left : Bool) : Pil :=
  { z with l := (z.l.set t (z.l.getD (t + 1) 0)).set (t + 1) (z.l.getD t 0), xs := z.xs ++ [if left then ⟨(z.works.length : Int), (t : Int), z.l.getD t 0, z.l.getD (t + 1) 0⟩ else ⟨(z.works.length : Int), (t : Int), z.l.getD (t + 1) 0, z.l.getD t 0⟩] }
end Go.Proofs.Ytaenafcecfdffaa
