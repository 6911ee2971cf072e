/-
  Contract of torchonref15.Do: the error of a step.
-/
import Derived.Test.YtnjenggijmbhcaaVK1
import Derived.Test.YtnjenggijmbhcaaVK23
namespace Go.Proofs.Ytnjenggijmbhcaa
open Go.RowKit
/-- the error of a step when the hands lie at h, and m works have been made -/
def doE (p s h : Int) (m : Nat) (x : Wk) : Int :=
  if shapeB x.kind x.word = false then 2
  else if wchk x.word ≠ 0 then wchk x.word
  else if x.at_ < 0 ∨ p - 2 < x.at_ ∨ (x.kind = 1 ∧ p - s < x.at_) then 7
  else if x.kind ≠ 1 ∧ heldB h s x.at_ = false then 9
  else if x.kind ≠ 1 ∧ 400 ≤ m then 3 else 0
theorem doE_1 {p s h k a : Int} {m : Nat} {d : ByteArray} (h1 : shapeB k d = false) : doE p s h m ⟨k, a, d⟩ = 2 := if_pos h1
theorem doE_2 {p s h k a : Int} {m : Nat} {d : ByteArray} (h1 : shapeB k d = true) (h2 : wchk d ≠ 0) : doE p s h m ⟨k, a, d⟩ = wchk d := by
  unfold doE; rw [if_neg (by rw [h1]; decide), if_pos h2]
theorem doE_3 {p s h k a : Int} {m : Nat} {d : ByteArray} (h1 : shapeB k d = true) (h2 : wchk d = 0) (h3 : a < 0 ∨ p - 2 < a ∨ (k = 1 ∧ p - s < a)) : doE p s h m ⟨k, a, d⟩ = 7 := by
  unfold doE; rw [if_neg (by rw [h1]; decide), if_neg (by rw [h2]; decide), if_pos h3]
theorem doE_4 {p s h k a : Int} {m : Nat} {d : ByteArray} (h1 : shapeB k d = true) (h2 : wchk d = 0) (h3 : ¬ (a < 0 ∨ p - 2 < a ∨ (k = 1 ∧ p - s < a))) (h4 : k ≠ 1 ∧ heldB h s a = false) : doE p s h m ⟨k, a, d⟩ = 9 := by
  unfold doE; rw [if_neg (by rw [h1]; decide), if_neg (by rw [h2]; decide), if_neg h3, if_pos h4]
theorem doE_5 {p s h k a : Int} {m : Nat} {d : ByteArray} (h1 : shapeB k d = true) (h2 : wchk d = 0) (h3 : ¬ (a < 0 ∨ p - 2 < a ∨ (k = 1 ∧ p - s < a))) (h4 : ¬ (k ≠ 1 ∧ heldB h s a = false)) (h5 : k ≠ 1 ∧ 400 ≤ m) : doE p s h m ⟨k, a, d⟩ = 3 := by
  unfold doE; rw [if_neg (by rw [h1]; decide), if_neg (by rw [h2]; decide), if_neg h3, if_neg h4, if_pos h5]
theorem doE_0 {p s h k a : Int} {m : Nat} {d : ByteArray} (h1 : shapeB k d = true) (h2 : wchk d = 0) (h3 : ¬ (a < 0 ∨ p - 2 < a ∨ (k = 1 ∧ p - s < a))) (h4 : ¬ (k ≠ 1 ∧ heldB h s a = false)) (h5 : ¬ (k ≠ 1 ∧ 400 ≤ m)) : doE p s h m ⟨k, a, d⟩ = 0 := by
  unfold doE; rw [if_neg (by rw [h1]; decide), if_neg (by rw [h2]; decide), if_neg h3, if_neg h4, if_neg h5]
set_option maxRecDepth 100000 in
set_option maxHeartbeats 1000000 in
theorem do15 (p s h k a : Int) (m : Nat) (d : ByteArray) (w : World) (hs : 2 ≤ s ∧ s ≤ 8) (hp : s ≤ p ∧ p ≤ 24) (hh : -1 ≤ h ∧ h ≤ 1000) (hd : d.size ≤ 9223372036854775807) :
    Calls Try.prog 48 #[.int .i64 p, .int .i64 s, .int .i64 h, .int .i64 (m : Int), .agg #[.int .i64 k, .int .i64 a, .string d]] w fun e w' => e = .returned (.int .i64 (doE p s h m ⟨k, a, d⟩)) ∧ Below w.heap.size w w' := by
  have i1 : IntKind.i64.wrap (p - 2) = p - 2 := IntWalk.i64_in _ (by omega)
  have i2 : IntKind.i64.wrap (p - s) = p - s := IntWalk.i64_in _ (by omega)
  go_enter Try.func48, Try.ntmps48
  go_wp2_with fail
  refine (shaped15 k a d _).mono ?_
  rintro e w1 ⟨rfl, hb1⟩
  have K12 : Has (w.alloc (.cells #[.int .i64 k, .int .i64 a, .string d] 64)) w.heap.size 64 [.int .i64 k, .int .i64 a, .string d] := Has.new rfl
  have K1 := Lib.hid (K12.below hb1 K12.lt)
  have B1 := Lib.hid (bvia (show Below w.heap.size w (w.alloc (.cells #[.int .i64 k, .int .i64 a, .string d] 64)) by go_grown) hb1)
  have y0 : w1.cell? ⟨w.heap.size, 0, none⟩ = some (.int .i64 k) := K1.out.cell 0
  have y1 : w1.cell? ⟨w.heap.size, 1, none⟩ = some (.int .i64 a) := K1.out.cell 1
  have y2 : w1.cell? ⟨w.heap.size, 2, none⟩ = some (.string d) := K1.out.cell 2
  have q2 := K1.out.lt
  clear hb1 K12
  cases hsh : shapeB k d with
  | false =>
    have HQ := Lib.hid (doE_1 (p := p) (s := s) (h := h) (k := k) (a := a) (m := m) (d := d) hsh)
    clear hsh
    go_wp2
    go_ret
    exact ⟨ret_int HQ.out.symm, B1.out⟩
  | true =>
  have HSH := Lib.hid hsh
  clear hsh
  go_wp2_with fail
  refine (check03 d _ hd).mono ?_
  rintro e w2 ⟨rfl, rfl⟩
  by_cases hwc : wchk d = 0
  case neg =>
    have HQ := Lib.hid (doE_2 (p := p) (s := s) (h := h) (k := k) (a := a) (m := m) (d := d) HSH.out hwc)
    go_wp2
    go_ret
    exact ⟨ret_int HQ.out.symm, B1.out⟩
  rw [hwc]
  have HWC := Lib.hid hwc
  clear hwc
  by_cases e1 : a < 0
  · have HQ := Lib.hid (doE_3 (p := p) (s := s) (h := h) (k := k) (a := a) (m := m) (d := d) HSH.out HWC.out (.inl e1))
    go_wp2
    go_ret
    exact ⟨ret_int HQ.out.symm, B1.out⟩
  have d1 : decide (a < 0) = false := decide_eq_false e1
  by_cases e2 : p - 2 < a
  · have HQ := Lib.hid (doE_3 (p := p) (s := s) (h := h) (k := k) (a := a) (m := m) (d := d) HSH.out HWC.out (.inr (.inl e2)))
    have d2 : decide (p - 2 < a) = true := decide_eq_true e2
    go_wp2
    go_ret
    exact ⟨ret_int HQ.out.symm, B1.out⟩
  have d2 : decide (p - 2 < a) = false := decide_eq_false e2
  by_cases k1 : k = 1
  · subst k1
    by_cases e3 : p - s < a
    · have HQ := Lib.hid (doE_3 (p := p) (s := s) (h := h) (k := 1) (a := a) (m := m) (d := d) HSH.out HWC.out (.inr (.inr ⟨rfl, e3⟩)))
      have d3 : decide (p - s < a) = true := decide_eq_true e3
      go_wp2
      go_ret
      exact ⟨ret_int HQ.out.symm, B1.out⟩
    have d3 : decide (p - s < a) = false := decide_eq_false e3
    have HQ := Lib.hid (doE_0 (p := p) (s := s) (h := h) (k := 1) (a := a) (m := m) (d := d) HSH.out HWC.out (by omega) (by simp) (by simp))
    go_wp2
    go_ret
    exact ⟨ret_int HQ.out.symm, B1.out⟩
  have k1' : (k == 1) = false := by simpa using k1
  have CH := Lib.hid (fun (W : World) => held15 h s a W (by omega) (by omega) (by omega))
  cases hhe : heldB h s a with
  | false =>
    have HQ := Lib.hid (doE_4 (p := p) (s := s) (h := h) (k := k) (a := a) (m := m) (d := d) HSH.out HWC.out (by omega) ⟨k1, hhe⟩)
    have HHE := Lib.hid hhe
    clear hhe
    go_wp2_with (go_at_call 71; refine (CH.out _).mono ?_; rintro e w3 ⟨rfl, rfl⟩; rw [HHE.out])
    go_ret
    exact ⟨ret_int HQ.out.symm, B1.out⟩
  | true =>
    have HHE := Lib.hid hhe
    clear hhe
    by_cases hm : 400 ≤ m
    · have HQ := Lib.hid (doE_5 (p := p) (s := s) (h := h) (k := k) (a := a) (m := m) (d := d) HSH.out HWC.out (by omega) (by simp [HHE.out]) ⟨k1, hm⟩)
      have hm' : (400 : Int) ≤ (m : Int) := by omega
      go_wp2_with (go_at_call 71; refine (CH.out _).mono ?_; rintro e w3 ⟨rfl, rfl⟩; rw [HHE.out])
      go_ret
      exact ⟨ret_int HQ.out.symm, B1.out⟩
    · have HQ := Lib.hid (doE_0 (p := p) (s := s) (h := h) (k := k) (a := a) (m := m) (d := d) HSH.out HWC.out (by omega) (by simp [HHE.out]) (by omega))
      have hm' : ¬ (400 : Int) ≤ (m : Int) := by omega
      go_wp2_with (go_at_call 71; refine (CH.out _).mono ?_; rintro e w3 ⟨rfl, rfl⟩; rw [HHE.out])
      go_ret
      exact ⟨ret_int HQ.out.symm, B1.out⟩
end Go.Proofs.Ytnjenggijmbhcaa
/-
  Contract of chapter 16: compile.Sheet.
-/
namespace Go.Proofs.Ytnjenggijmbhcaa
open Go.RowKit
theorem results_cell_tmp2 {fn : Func} {p u v : Tmp} {ty : TypeId} (h : fn.results = #[.cell p ty, .tmp u, .tmp v]) (tmps : Array Value) (P : Program) (w : World) :
    (results fn tmps).run P w =
      ((asAddr (tmps.getD p undef)).run P w).andThen fun a w₁ => ((loadVar ty a).run P w₁).andThen fun x w₂ => .ok (.tuple #[x, tmps.getD u undef, tmps.getD v undef]) w₂ := by
  simp only [results, h]
  simp [Sem.run_bind, Result.andThen]
theorem post_cell_tmp2 {P : Program} {fn : Func} {R : Ending → World → Prop} {a : Act} {w : World} {g : Nat} {t ty : TypeId} {p u1 u2 : Tmp} {cs : List Value} {v1 v2 : Value} {fs : Array Field} (hh : Has w g t cs) (hres : fn.results = #[.cell p ty, .tmp u1, .tmp u2])
    (hp : a.tmps.getD p undef = .pointer (some ⟨g, 0, none⟩)) (hv1 : a.tmps.getD u1 undef = v1) (hv2 : a.tmps.getD u2 undef = v2) (hd : a.defers = []) (hu : P.underlying ty = some (.struct fs)) (hi : (P.info? ty).map (·.size) = some cs.toArray.size)
    (hR : R (.returned (.tuple #[.agg cs.toArray, v1, v2])) w) : bodyPost P fn R .ret a w := by
  refine bodyPost_ret (v := .tuple #[.agg cs.toArray, v1, v2]) ?_ hd hR
  have hl := run_loadVar_row (P := P) w g t ty cs.toArray (0, 0) (.struct fs) hh hu rfl hi
  rw [results_cell_tmp2 hres, hp, hv1, hv2]
  simp [asAddr, hl, Result.andThen]
/-- the error of a step: hands as compile.Sheet has them, m works made -/
def cpE (p s h : Int) (m : Nat) (x : Wk) : Int :=
  if shapeB x.kind x.word = false then 2
  else if wchk x.word ≠ 0 then wchk x.word
  else if x.at_ < 0 ∨ p - 2 < x.at_ ∨ (x.kind = 1 ∧ p - s < x.at_) then 7
  else if x.kind ≠ 1 ∧ (x.at_ < h ∨ h + s ≤ x.at_ + 1) then 9
  else if x.kind ≠ 1 ∧ m = 400 then 3 else 0
def cpAll (p s : Int) : Int → Nat → List Wk → Int
  | _, _, [] => 0
  | h, m, x :: l => if cpE p s h m x ≠ 0 then cpE p s h m x else if x.kind = 1 then cpAll p s x.at_ m l else cpAll p s h (m + 1) l
def csE (p s : Int) (l : List Wk) : Int := if p < 2 ∨ 24 < p ∨ spB p s = false then 7 else if 1000 < l.length then 3 else cpAll p s (-s) 0 l
theorem cpAll_err {p s h : Int} {m : Nat} {x : Wk} {l : List Wk} {e : Int} (h1 : cpE p s h m x = e) (h2 : e ≠ 0) : cpAll p s h m (x :: l) = e := by
  unfold cpAll; rw [h1, if_pos h2]
theorem cpE_1 {p s h k a : Int} {m : Nat} {d : ByteArray} (h1 : shapeB k d = false) : cpE p s h m ⟨k, a, d⟩ = 2 := if_pos h1
theorem cpE_2 {p s h k a : Int} {m : Nat} {d : ByteArray} (h1 : shapeB k d = true) (h2 : wchk d ≠ 0) : cpE p s h m ⟨k, a, d⟩ = wchk d := by
  unfold cpE; rw [if_neg (by rw [h1]; decide), if_pos h2]
theorem cpE_3 {p s h k a : Int} {m : Nat} {d : ByteArray} (h1 : shapeB k d = true) (h2 : wchk d = 0) (h3 : a < 0 ∨ p - 2 < a ∨ (k = 1 ∧ p - s < a)) : cpE p s h m ⟨k, a, d⟩ = 7 := by
  unfold cpE; rw [if_neg (by rw [h1]; decide), if_neg (by rw [h2]; decide), if_pos h3]
theorem cpE_4 {p s h k a : Int} {m : Nat} {d : ByteArray} (h1 : shapeB k d = true) (h2 : wchk d = 0) (h3 : ¬ (a < 0 ∨ p - 2 < a ∨ (k = 1 ∧ p - s < a))) (h4 : k ≠ 1 ∧ (a < h ∨ h + s ≤ a + 1)) : cpE p s h m ⟨k, a, d⟩ = 9 := by
  unfold cpE; rw [if_neg (by rw [h1]; decide), if_neg (by rw [h2]; decide), if_neg h3, if_pos h4]
theorem cpE_5 {p s h k a : Int} {m : Nat} {d : ByteArray} (h1 : shapeB k d = true) (h2 : wchk d = 0) (h3 : ¬ (a < 0 ∨ p - 2 < a ∨ (k = 1 ∧ p - s < a))) (h4 : ¬ (k ≠ 1 ∧ (a < h ∨ h + s ≤ a + 1))) (h5 : k ≠ 1 ∧ m = 400) : cpE p s h m ⟨k, a, d⟩ = 3 := by
  unfold cpE; rw [if_neg (by rw [h1]; decide), if_neg (by rw [h2]; decide), if_neg h3, if_neg h4, if_pos h5]
theorem cpE_0 {p s h k a : Int} {m : Nat} {d : ByteArray} (h1 : shapeB k d = true) (h2 : wchk d = 0) (h3 : ¬ (a < 0 ∨ p - 2 < a ∨ (k = 1 ∧ p - s < a))) (h4 : ¬ (k ≠ 1 ∧ (a < h ∨ h + s ≤ a + 1))) (h5 : ¬ (k ≠ 1 ∧ m = 400)) : cpE p s h m ⟨k, a, d⟩ = 0 := by
  unfold cpE; rw [if_neg (by rw [h1]; decide), if_neg (by rw [h2]; decide), if_neg h3, if_neg h4, if_neg h5]
theorem cpAll_reach {p s a : Int} {d : ByteArray} {l : List Wk} (h1 : shapeB 1 d = true) (h2 : wchk d = 0) (h3 : ¬ (a < 0 ∨ p - 2 < a ∨ ((1 : Int) = 1 ∧ p - s < a))) (m : Nat) (h : Int) : cpAll p s h m (⟨1, a, d⟩ :: l) = cpAll p s a m l := by
  have e := cpE_0 (h := h) (m := m) h1 h2 h3 (by omega) (by omega)
  show (if cpE p s h m ⟨1, a, d⟩ ≠ 0 then _ else _) = _
  rw [e]; rfl
theorem cpAll_work {p s h k a : Int} {m : Nat} {d : ByteArray} {l : List Wk} (h1 : shapeB k d = true) (h2 : wchk d = 0) (h3 : ¬ (a < 0 ∨ p - 2 < a ∨ (k = 1 ∧ p - s < a))) (h4 : ¬ (k ≠ 1 ∧ (a < h ∨ h + s ≤ a + 1))) (h5 : ¬ (k ≠ 1 ∧ m = 400)) (h6 : k ≠ 1) : cpAll p s h m (⟨k, a, d⟩ :: l) = cpAll p s h (m + 1) l := by
  have e := cpE_0 h1 h2 h3 h4 h5
  show (if cpE p s h m ⟨k, a, d⟩ ≠ 0 then _ else if k = 1 then _ else _) = _
  rw [e, if_neg (by decide), if_neg h6]
theorem infoWk16 : (Try.prog.info? 26).map (fun i => (i.zero, i.size, i.bytes)) = some (some (.agg #[.int .i64 0, .int .i64 0, .string ⟨#[]⟩]), 3, 32) := by kernel_rfl
def RetCs (err : Int) (w : World) (e : Ending) (w' : World) : Prop := ∃ p A n c b, e = .returned (.tuple #[.agg #[.int .i64 p, .slice A n c], .int .i64 b, .int .i64 err]) ∧ Below w.heap.size w w'
set_option maxRecDepth 100000 in
set_option maxHeartbeats 4000000 in
theorem csheet (p s : Int) (A : Option Addr) (n c : Nat) (l : List Wk) (w : World) (hn : n ≤ 9223372036854775807) (hw : RdW w w.heap.size A l) (hl : l.length = n) (hs : ∀ x ∈ l, x.word.size ≤ 9223372036854775807) :
    Calls Try.prog 56 #[.int .i64 p, .int .i64 s, .slice A n c] w (RetCs (csE p s l) w) := by
  have HW := Lib.hid hw; clear hw
  have HL := Lib.hid hl; clear hl
  have HS := Lib.hid hs; clear hs
  by_cases h1 : p < 2
  · rw [show csE p s l = 7 from if_pos (.inl h1)]
    go_enter Try.func56, Try.ntmps56
    go_wp2
    refine post_cell_tmp2 (Has.new rfl) rfl rfl rfl rfl rfl Try.underlying24 (by kernel_rfl) ⟨_, _, _, _, _, rfl, by go_grown⟩
  by_cases h2 : 24 < p
  · rw [show csE p s l = 7 from if_pos (.inr (.inl h2))]
    go_enter Try.func56, Try.ntmps56
    go_wp2
    refine post_cell_tmp2 (Has.new rfl) rfl rfl rfl rfl rfl Try.underlying24 (by kernel_rfl) ⟨_, _, _, _, _, rfl, by go_grown⟩
  cases h3 : spB p s with
  | false =>
    rw [show csE p s l = 7 from if_pos (.inr (.inr h3))]
    go_enter Try.func56, Try.ntmps56
    go_wp2_with fail
    refine (spansC _ _ _).mono ?_
    rintro e w1 ⟨rfl, rfl⟩
    rw [h3]
    go_wp2
    refine post_cell_tmp2 (Has.new rfl) rfl rfl rfl rfl rfl Try.underlying24 (by kernel_rfl) ⟨_, _, _, _, _, rfl, by go_grown⟩
  | true =>
  by_cases h4 : 1000 < n
  · rw [show csE p s l = 3 by unfold csE; rw [if_neg (by rw [h3]; simp; omega), if_pos (by rw [HL.out]; omega)]]
    go_enter Try.func56, Try.ntmps56
    go_wp2_with fail
    refine (spansC _ _ _).mono ?_
    rintro e w1 ⟨rfl, rfl⟩
    rw [h3]
    go_wp2
    refine post_cell_tmp2 (Has.new rfl) rfl rfl rfl rfl rfl Try.underlying24 (by kernel_rfl) ⟨_, _, _, _, _, rfl, by go_grown⟩
  have hsp : 2 ≤ s ∧ s ≤ 8 ∧ s ≤ p := of_decide_eq_true h3
  rw [show csE p s l = cpAll p s (-s) 0 l by unfold csE; rw [if_neg (by rw [h3]; simp; omega), if_neg (by rw [HL.out]; omega)]]
  have i0 : IntKind.i64.wrap (-s) = -s := IntWalk.i64_in _ (by omega)
  have H3 := Lib.hid h3
  clear h3
  go_enter Try.func56, Try.ntmps56
  go_wp2_with fail
  refine (spansC _ _ _).mono ?_
  rintro e w1 ⟨rfl, rfl⟩
  rw [H3.out]
  go_wp2
  go_loopw [9, 10, 36] (fun hv v i wr => ∃ (k m : Nat) (h : Int) (A' : Option Addr) (c' : Nat) (ms : List Wk), k ≤ n ∧ m ≤ k ∧ m ≤ 400 ∧ -1000 ≤ h ∧ h ≤ 1000 ∧ i = .int .i64 (k : Int) ∧ hv = .int .i64 h ∧ v = .slice A' m c' ∧ Hid (wr.ownsRow w.heap.size 26 3 v m (wksCells ms)) ∧ Hid (Has wr w.heap.size 24 [.int .i64 0, .slice none 0 0]) ∧ Hid (cpAll p s h m (l.drop k) = cpAll p s (-s) 0 l) ∧ Hid (Below w.heap.size w wr)) (fun _ _ i _ => n - (intOf i).toNat)
  case atStart =>
    refine ⟨0, 0, -s, none, 0, [], Nat.zero_le _, Nat.le_refl _, by omega, by omega, by omega, rfl, rfl, rfl, ?_, ?_, ?_, ?_⟩
    · exact World.ownsRow_nil _ _ _ _
    · exact Has.new rfl
    · show _ = _
      rw [List.drop_zero]
    · show Below _ _ _
      go_grown
  case round =>
    obtain ⟨k, m, h, A', c', ms, hk, hmk, hm4, hh1, hh2, rfl, rfl, rfl, HO, HH, HP, HB⟩ := hrel
    obtain ⟨wo, rfl⟩ : ∃ wo : World, wo = wr := ⟨_, rfl⟩
    by_cases hlt : k < n
    · have jk : (k : Int) < (n : Int) := by omega
      obtain ⟨x, hx⟩ := get_of_lt (l := l) (k := k) (by rw [HL.out]; exact hlt)
      obtain ⟨b, o, hA, hb, c0, c1, c2⟩ := (HW.out.up HB.out) k x hx
      subst hA
      have hwd := HS.out x (mem_of_get hx)
      have HP2 : Hid (l.drop k = x :: l.drop (k + 1)) := List.drop_eq_getElem?_toList_append.trans (by rw [hx]; rfl)
      clear hx
      obtain ⟨kd, at_, wd⟩ := x
      simp only [] at c0 c1 c2 hwd
      have f0 := HH.out.free 0
      have f1 := HH.out.free 1
      have q0 := HH.out.lt
      have a0 : wo.cell? ⟨w.heap.size, 0, none⟩ = some (.int .i64 0) := HH.out.cell 0
      have a1 : wo.cell? ⟨w.heap.size, 1, none⟩ = some (.slice none 0 0) := HH.out.cell 1
      go_wp2_with fail
      refine (shapedC kd at_ wd _).mono ?_
      rintro e w1 ⟨rfl, hb1⟩
      have K12 : Has (wo.alloc (.cells #[.int .i64 kd, .int .i64 at_, .string wd] 64)) wo.heap.size 64 [.int .i64 kd, .int .i64 at_, .string wd] := Has.new rfl
      have K1 := Lib.hid (K12.below hb1 K12.lt)
      have H1 := Lib.hid ((HH.out.alloc (.cells #[.int .i64 kd, .int .i64 at_, .string wd] 64)).below hb1 (HH.out.alloc _).lt)
      have O1 := Lib.hid (own_below (HO.out.alloc (.cells #[.int .i64 kd, .int .i64 at_, .string wd] 64)) hb1)
      have B1 := Lib.hid (bvia (bvia HB.out (show Below wo.heap.size wo (wo.alloc (.cells #[.int .i64 kd, .int .i64 at_, .string wd] 64)) by go_grown)) hb1)
      have a0 : w1.cell? ⟨w.heap.size, 0, none⟩ = some (.int .i64 0) := H1.out.cell 0
      have a1 : w1.cell? ⟨w.heap.size, 1, none⟩ = some (.slice none 0 0) := H1.out.cell 1
      have f0 := H1.out.free 0
      have f1 := H1.out.free 1
      have q1 := H1.out.lt
      have y0 : w1.cell? ⟨wo.heap.size, 0, none⟩ = some (.int .i64 kd) := K1.out.cell 0
      have y1 : w1.cell? ⟨wo.heap.size, 1, none⟩ = some (.int .i64 at_) := K1.out.cell 1
      have y2 : w1.cell? ⟨wo.heap.size, 2, none⟩ = some (.string wd) := K1.out.cell 2
      have q2 := K1.out.lt
      have q3 := hb1.size
      clear hb1 K12 HH HO HB
      cases hsh : shapeB kd wd with
      | false =>
        have HQ : Hid (cpAll p s (-s) 0 l = 2) := by
          show _ = _
          rw [← HP.out, HP2.out]
          exact cpAll_err (cpE_1 hsh) (by first | omega | decide)
        go_wp2
        rw [HQ.out]
        exact post_cell_tmp2 ((H1.out.set 0 _).set 1 _) rfl rfl rfl rfl rfl Try.underlying24 (by kernel_rfl) ⟨_, _, _, _, _, rfl, (B1.out.setCell (p := ⟨w.heap.size, 0, none⟩) (Nat.le_refl _) _).setCell (p := ⟨w.heap.size, 1, none⟩) (Nat.le_refl _) _⟩
      | true =>
        have HSH := Lib.hid hsh
        clear hsh
        go_wp2_with fail
        refine (stCheck wd _ hwd).mono ?_
        rintro e w2 ⟨rfl, rfl⟩
        by_cases hwc : wchk wd = 0
        case neg =>
          have HWC := Lib.hid hwc
          have HQ : Hid (cpAll p s (-s) 0 l = wchk wd) := by
            show _ = _
            rw [← HP.out, HP2.out]
            exact cpAll_err (cpE_2 HSH.out HWC.out) HWC.out
          go_wp2
          rw [HQ.out]
          exact post_cell_tmp2 ((H1.out.set 0 _).set 1 _) rfl rfl rfl rfl rfl Try.underlying24 (by kernel_rfl) ⟨_, _, _, _, _, rfl, (B1.out.setCell (p := ⟨w.heap.size, 0, none⟩) (Nat.le_refl _) _).setCell (p := ⟨w.heap.size, 1, none⟩) (Nat.le_refl _) _⟩
        rw [hwc]
        have HWC := Lib.hid hwc
        clear hwc
        have i1 : IntKind.i64.wrap (p - 2) = p - 2 := IntWalk.i64_in _ (by omega)
        have i2 : IntKind.i64.wrap (p - s) = p - s := IntWalk.i64_in _ (by omega)
        have i4 : IntKind.i64.wrap (h + s) = h + s := IntWalk.i64_in _ (by omega)
        by_cases e1 : at_ < 0
        · have HQ : Hid (cpAll p s (-s) 0 l = 7) := by
            show _ = _
            rw [← HP.out, HP2.out]
            exact cpAll_err (cpE_3 HSH.out HWC.out (.inl e1)) (by first | omega | decide)
          go_wp2
          rw [HQ.out]
          exact post_cell_tmp2 ((H1.out.set 0 _).set 1 _) rfl rfl rfl rfl rfl Try.underlying24 (by kernel_rfl) ⟨_, _, _, _, _, rfl, (B1.out.setCell (p := ⟨w.heap.size, 0, none⟩) (Nat.le_refl _) _).setCell (p := ⟨w.heap.size, 1, none⟩) (Nat.le_refl _) _⟩
        have d1 : decide (at_ < 0) = false := decide_eq_false e1
        by_cases e2 : p - 2 < at_
        · have HQ : Hid (cpAll p s (-s) 0 l = 7) := by
            show _ = _
            rw [← HP.out, HP2.out]
            exact cpAll_err (cpE_3 HSH.out HWC.out (.inr (.inl e2))) (by first | omega | decide)
          go_wp2
          rw [HQ.out]
          exact post_cell_tmp2 ((H1.out.set 0 _).set 1 _) rfl rfl rfl rfl rfl Try.underlying24 (by kernel_rfl) ⟨_, _, _, _, _, rfl, (B1.out.setCell (p := ⟨w.heap.size, 0, none⟩) (Nat.le_refl _) _).setCell (p := ⟨w.heap.size, 1, none⟩) (Nat.le_refl _) _⟩
        have d2 : decide (p - 2 < at_) = false := decide_eq_false e2
        have i3 : IntKind.i64.wrap (at_ + 1) = at_ + 1 := IntWalk.i64_in _ (by omega)
        by_cases k1 : kd = 1
        · subst k1
          by_cases e3 : p - s < at_
          · have HQ : Hid (cpAll p s (-s) 0 l = 7) := by
              show _ = _
              rw [← HP.out, HP2.out]
              exact cpAll_err (cpE_3 HSH.out HWC.out (.inr (.inr ⟨rfl, e3⟩))) (by first | omega | decide)
            go_wp2
            rw [HQ.out]
            exact post_cell_tmp2 ((H1.out.set 0 _).set 1 _) rfl rfl rfl rfl rfl Try.underlying24 (by kernel_rfl) ⟨_, _, _, _, _, rfl, (B1.out.setCell (p := ⟨w.heap.size, 0, none⟩) (Nat.le_refl _) _).setCell (p := ⟨w.heap.size, 1, none⟩) (Nat.le_refl _) _⟩
          have d3 : decide (p - s < at_) = false := decide_eq_false e3
          have HQ := Lib.hid (cpAll_reach (l := l.drop (k + 1)) HSH.out HWC.out (show ¬ (at_ < 0 ∨ p - 2 < at_ ∨ ((1 : Int) = 1 ∧ p - s < at_)) by omega) m h)
          go_wp2
          go_roundw
          case rel =>
            refine ⟨k + 1, m, at_, A', c', ms, by omega, by omega, hm4, by omega, by omega, rfl, rfl, rfl, O1, H1, ?_, B1⟩
            show _ = _
            rw [← HP.out, HP2.out, HQ.out]
          case measure => first | (simp [intOf]; done) | (simp [intOf]; omega)
        have k1b : (kd == 1) = false := by simpa using k1
        by_cases e4 : at_ < h
        · have HQ : Hid (cpAll p s (-s) 0 l = 9) := by
            show _ = _
            rw [← HP.out, HP2.out]
            exact cpAll_err (cpE_4 HSH.out HWC.out (by omega) ⟨k1, .inl e4⟩) (by first | omega | decide)
          go_wp2
          rw [HQ.out]
          exact post_cell_tmp2 ((H1.out.set 0 _).set 1 _) rfl rfl rfl rfl rfl Try.underlying24 (by kernel_rfl) ⟨_, _, _, _, _, rfl, (B1.out.setCell (p := ⟨w.heap.size, 0, none⟩) (Nat.le_refl _) _).setCell (p := ⟨w.heap.size, 1, none⟩) (Nat.le_refl _) _⟩
        have d4 : decide (at_ < h) = false := decide_eq_false e4
        by_cases e5 : h + s ≤ at_ + 1
        · have HQ : Hid (cpAll p s (-s) 0 l = 9) := by
            show _ = _
            rw [← HP.out, HP2.out]
            exact cpAll_err (cpE_4 HSH.out HWC.out (by omega) ⟨k1, .inr e5⟩) (by first | omega | decide)
          go_wp2
          rw [HQ.out]
          exact post_cell_tmp2 ((H1.out.set 0 _).set 1 _) rfl rfl rfl rfl rfl Try.underlying24 (by kernel_rfl) ⟨_, _, _, _, _, rfl, (B1.out.setCell (p := ⟨w.heap.size, 0, none⟩) (Nat.le_refl _) _).setCell (p := ⟨w.heap.size, 1, none⟩) (Nat.le_refl _) _⟩
        have d5 : decide (h + s ≤ at_ + 1) = false := decide_eq_false e5
        by_cases e6 : m = 400
        · have HQ : Hid (cpAll p s (-s) 0 l = 3) := by
            show _ = _
            rw [← HP.out, HP2.out]
            exact cpAll_err (cpE_5 HSH.out HWC.out (by omega) (by omega) ⟨k1, e6⟩) (by first | omega | decide)
          go_wp2
          rw [HQ.out]
          exact post_cell_tmp2 ((H1.out.set 0 _).set 1 _) rfl rfl rfl rfl rfl Try.underlying24 (by kernel_rfl) ⟨_, _, _, _, _, rfl, (B1.out.setCell (p := ⟨w.heap.size, 0, none⟩) (Nat.le_refl _) _).setCell (p := ⟨w.heap.size, 1, none⟩) (Nat.le_refl _) _⟩
        have d6 : ((m : Int) == 400) = false := by simp; omega
        have HQ := Lib.hid (cpAll_work (l := l.drop (k + 1)) HSH.out HWC.out (show ¬ (at_ < 0 ∨ p - 2 < at_ ∨ (kd = 1 ∧ p - s < at_)) by omega) (show ¬ (kd ≠ 1 ∧ (at_ < h ∨ h + s ≤ at_ + 1)) by omega) (show ¬ (kd ≠ 1 ∧ m = 400) by omega) k1)
        by_cases k3 : kd = 3
        · subst k3
          go_wp2_with (at_builtin; refine wpList_app rfl (.tmp 127) (.tmp 131) _ rfl w.heap.size 26 (.agg #[.int .i64 0, .int .i64 0, .string ⟨#[]⟩]) 3 32 Try.underlying22 infoWk16 rfl (by omega) (by omega) (.slice A' m c') _ _ rfl (O1.out.alloc _) w1.heap.size (wkCells ⟨2, at_, ⟨#[]⟩⟩) rfl rfl (news_wk _ ⟨2, at_, ⟨#[]⟩⟩ _) (one_wk _) (by omega) (by simp; omega) ?_; intro g1 cap1 w3 hg1 hown1 hgrow1 hor1)
          go_roundw
          case rel =>
            refine ⟨k + 1, m + 1, h, _, cap1, ms ++ [⟨2, at_, ⟨#[]⟩⟩], by omega, by omega, by omega, hh1, hh2, rfl, rfl, rfl, ?_, ?_, ?_, ?_⟩
            · show World.ownsRow _ _ _ _ _ _ _
              rw [wksCells_app]; exact hown1
            · show Has _ _ _ _
              exact (H1.out.alloc (.cells #[.int .i64 2, .int .i64 at_, .string ⟨#[]⟩] 26)).same (hgrow1.block _ (H1.out.alloc (.cells #[.int .i64 2, .int .i64 at_, .string ⟨#[]⟩] 26)).lt (fun e => (H1.out.alloc (.cells #[.int .i64 2, .int .i64 at_, .string ⟨#[]⟩] 26)).ne_own (O1.out.alloc (.cells #[.int .i64 2, .int .i64 at_, .string ⟨#[]⟩] 26)) (by decide) e.symm))
            · show _ = _
              rw [← HP.out, HP2.out, HQ.out]
            · show Below _ _ _
              exact (B1.out.alloc (by have := B1.out.size; omega) (.cells #[.int .i64 2, .int .i64 at_, .string ⟨#[]⟩] 26)).grown hgrow1 (by simp; omega) (fun k hk => (O1.out.lt k hk).1)
          case measure => first | (simp [intOf]; done) | (simp [intOf]; omega)
        · have k3b : (kd == 3) = false := by simpa using k3
          go_wp2_with (at_builtin; refine wpList_app rfl (.tmp 57) (.tmp 63) _ rfl w.heap.size 26 (.agg #[.int .i64 0, .int .i64 0, .string ⟨#[]⟩]) 3 32 Try.underlying22 infoWk16 rfl (by omega) (by omega) (.slice A' m c') _ _ rfl (O1.out.alloc _) w1.heap.size (wkCells ⟨1, at_, wd⟩) rfl rfl (news_wk _ ⟨1, at_, wd⟩ _) (one_wk _) (by omega) (by simp; omega) ?_; intro g1 cap1 w3 hg1 hown1 hgrow1 hor1)
          go_roundw
          case rel =>
            refine ⟨k + 1, m + 1, h, _, cap1, ms ++ [⟨1, at_, wd⟩], by omega, by omega, by omega, hh1, hh2, rfl, rfl, rfl, ?_, ?_, ?_, ?_⟩
            · show World.ownsRow _ _ _ _ _ _ _
              rw [wksCells_app]; exact hown1
            · show Has _ _ _ _
              exact (H1.out.alloc (.cells #[.int .i64 1, .int .i64 at_, .string wd] 26)).same (hgrow1.block _ (H1.out.alloc (.cells #[.int .i64 1, .int .i64 at_, .string wd] 26)).lt (fun e => (H1.out.alloc (.cells #[.int .i64 1, .int .i64 at_, .string wd] 26)).ne_own (O1.out.alloc (.cells #[.int .i64 1, .int .i64 at_, .string wd] 26)) (by decide) e.symm))
            · show _ = _
              rw [← HP.out, HP2.out, HQ.out]
            · show Below _ _ _
              exact (B1.out.alloc (by have := B1.out.size; omega) (.cells #[.int .i64 1, .int .i64 at_, .string wd] 26)).grown hgrow1 (by simp; omega) (fun k hk => (O1.out.lt k hk).1)
          case measure => first | (simp [intOf]; done) | (simp [intOf]; omega)
    · obtain rfl : k = n := by omega
      have jk : ¬ (k : Int) < (k : Int) := by omega
      have HQ : Hid (cpAll p s (-s) 0 l = 0) := by
        show _ = _
        rw [← HP.out, List.drop_of_length_le (by rw [HL.out]; exact Nat.le_refl _)]; rfl
      have f0 := HH.out.free 0
      have f1 := HH.out.free 1
      have q0 := HH.out.lt
      have a0 : wo.cell? ⟨w.heap.size, 0, none⟩ = some (.int .i64 0) := HH.out.cell 0
      have a1 : wo.cell? ⟨w.heap.size, 1, none⟩ = some (.slice none 0 0) := HH.out.cell 1
      go_wp2
      rw [HQ.out]
      refine post_cell_tmp2 ((HH.out.set 0 _).set 1 _) rfl rfl rfl rfl rfl Try.underlying24 (by kernel_rfl) ⟨_, _, _, _, _, rfl, ?_⟩
      exact (HB.out.setCell (p := ⟨w.heap.size, 0, none⟩) (Nat.le_refl _) _).setCell (p := ⟨w.heap.size, 1, none⟩) (Nat.le_refl _) _
end Go.Proofs.Ytnjenggijmbhcaa
/-
  Contract of torchonref15.Sheet: the sheet that instructions make.
-/
namespace Go.Proofs.Ytnjenggijmbhcaa
open Go.RowKit
/-- the works that steps make -/
def wksOf (l : List Wk) : List Wk := (l.filter fun x => !(x.kind == 1)).map workOf
theorem wksOf_app (l r : List Wk) : wksOf (l ++ r) = wksOf l ++ wksOf r := by unfold wksOf; rw [List.filter_append, List.map_append]
theorem wksOf_reach {x : Wk} (h : x.kind = 1) : wksOf [x] = [] := by unfold wksOf; rw [List.filter_cons, if_neg (by simp [h])]; rfl
theorem wksOf_work {x : Wk} (h : x.kind ≠ 1) : wksOf [x] = [workOf x] := by unfold wksOf; rw [List.filter_cons, if_pos (by simpa using h)]; rfl
theorem wksOf_take {l : List Wk} {k : Nat} {x : Wk} (h : l[k]? = some x) : wksOf (l.take (k + 1)) = wksOf (l.take k) ++ wksOf [x] := by
  rw [List.take_add_one, h, Option.toList_some, wksOf_app]
/-- the error of steps: hands at h, m works made -/
def shE (p s : Int) : Int → Nat → List Wk → Int
  | _, _, [] => 0
  | h, m, x :: l => if doE p s h m x ≠ 0 then doE p s h m x else if x.kind = 1 then shE p s x.at_ m l else shE p s h (m + 1) l
def sheetE (p s : Int) (l : List Wk) : Int := if handsE p s ≠ 0 then 7 else if 1000 < l.length then 3 else shE p s (-1) 0 l
theorem shE_err {p s h : Int} {m : Nat} {x : Wk} {l : List Wk} (h1 : doE p s h m x ≠ 0) : shE p s h m (x :: l) = doE p s h m x := if_pos h1
theorem shE_reach {p s h : Int} {m : Nat} {x : Wk} {l : List Wk} (h1 : doE p s h m x = 0) (h2 : x.kind = 1) : shE p s h m (x :: l) = shE p s x.at_ m l := by
  show (if _ then _ else _) = _
  rw [if_neg (by rw [h1]; simp), if_pos h2]
theorem shE_work {p s h : Int} {m : Nat} {x : Wk} {l : List Wk} (h1 : doE p s h m x = 0) (h2 : x.kind ≠ 1) : shE p s h m (x :: l) = shE p s h (m + 1) l := by
  show (if _ then _ else _) = _
  rw [if_neg (by rw [h1]; simp), if_neg h2]
theorem doE_at {p s h : Int} {m : Nat} {x : Wk} (h1 : doE p s h m x = 0) : shapeB x.kind x.word = true ∧ wchk x.word = 0 ∧ 0 ≤ x.at_ ∧ x.at_ ≤ p - 2 ∧ (x.kind = 1 → x.at_ ≤ p - s) ∧ (x.kind ≠ 1 → heldB h s x.at_ = true ∧ m < 400) := by
  unfold doE at h1
  split at h1
  · cases h1
  · rename_i a1
    split at h1
    · rename_i a2; exact absurd h1 a2
    · rename_i a2
      split at h1
      · cases h1
      · rename_i a3
        split at h1
        · cases h1
        · rename_i a4
          split at h1
          · cases h1
          · rename_i a5
            refine ⟨by simpa using a1, by simpa using a2, by omega, by omega, fun hk => by omega, fun hk => ⟨?_, by omega⟩⟩
            cases hh : heldB h s x.at_ with
            | true => rfl
            | false => exact absurd ⟨by assumption, hh⟩ a4
theorem handsE_ok {p s : Int} (h : handsE p s = 0) : 2 ≤ p ∧ p ≤ 24 ∧ spB p s = true := by
  unfold handsE at h
  split at h
  · cases h
  · rename_i a
    refine ⟨by omega, by omega, ?_⟩
    cases hh : spB p s with
    | true => rfl
    | false => exact absurd (.inr (.inr hh)) a
def RetSh (p : Int) (us : List Wk) (err : Int) (w : World) (e : Ending) (w' : World) : Prop := ∃ q A n c b, e = .returned (.tuple #[.agg #[.int .i64 q, .slice A n c], .int .i64 b, .int .i64 err]) ∧ Below w.heap.size w w' ∧ (err = 0 → q = p ∧ RdW w' w'.heap.size A us ∧ us.length = n ∧ n ≤ c ∧ c ≤ 9223372036854775807)
set_option maxRecDepth 100000 in
set_option maxHeartbeats 8000000 in
theorem sheet15 (p s : Int) (A : Option Addr) (n c : Nat) (l : List Wk) (w : World) (hn : n ≤ 9223372036854775807) (hw : RdW w w.heap.size A l) (hl : l.length = n) (hs : ∀ x ∈ l, x.word.size ≤ 9223372036854775807) :
    Calls Try.prog 24 #[.int .i64 p, .int .i64 s, .slice A n c] w (RetSh p (wksOf l) (sheetE p s l) w) := by
  have HW := Lib.hid hw; clear hw
  have HL := Lib.hid hl; clear hl
  have HS := Lib.hid hs; clear hs
  by_cases hh : handsE p s = 0
  case neg =>
    have HH := Lib.hid hh
    have h7 : handsE p s = 7 := by
      unfold handsE at hh ⊢
      by_cases q : p < 2 ∨ 24 < p ∨ spB p s = false
      · rw [if_pos q]
      · rw [if_neg q] at hh; exact absurd rfl hh
    rw [show sheetE p s l = 7 from if_pos hh]
    go_enter Try.func24, Try.ntmps24
    go_wp2_with fail
    refine (hands15 _ _ _).mono ?_
    rintro e w1 ⟨rfl, rfl⟩
    rw [h7]
    clear hh
    go_wp2
    exact post_cell_tmp2 (Has.new rfl) rfl rfl rfl rfl rfl Try.underlying24 (by kernel_rfl) ⟨_, _, _, _, _, rfl, by go_grown, fun h => by cases h⟩
  by_cases h4 : 1000 < n
  · rw [show sheetE p s l = 3 by unfold sheetE; rw [if_neg (by rw [hh]; simp), if_pos (by rw [HL.out]; omega)]]
    go_enter Try.func24, Try.ntmps24
    go_wp2_with fail
    refine (hands15 _ _ _).mono ?_
    rintro e w1 ⟨rfl, rfl⟩
    rw [hh]
    clear hh
    go_wp2
    exact post_cell_tmp2 (Has.new rfl) rfl rfl rfl rfl rfl Try.underlying24 (by kernel_rfl) ⟨_, _, _, _, _, rfl, by go_grown, fun h => by cases h⟩
  obtain ⟨hp2, hp24, hsp⟩ := handsE_ok hh
  have hsp' : 2 ≤ s ∧ s ≤ 8 ∧ s ≤ p := of_decide_eq_true hsp
  rw [show sheetE p s l = shE p s (-1) 0 l by unfold sheetE; rw [if_neg (by rw [hh]; simp), if_neg (by rw [HL.out]; omega)]]
  have HH := Lib.hid hh
  clear hh hsp
  obtain ⟨E0, hE0⟩ : ∃ E, E = shE p s (-1) 0 l := ⟨_, rfl⟩
  rw [← hE0]
  have HE0 := Lib.hid hE0
  clear hE0
  go_enter Try.func24, Try.ntmps24
  go_wp2_with fail
  refine (hands15 _ _ _).mono ?_
  rintro e w1 ⟨rfl, rfl⟩
  rw [HH.out]
  go_wp2
  have hg0 : Has ((w.alloc (.cells #[.int .i64 0, .slice none 0 0] 24)).alloc (.cells #[.int .i64 p, .slice none 0 0] 24)) w.heap.size 24 [.int .i64 0, .slice none 0 0] := (Has.new rfl).alloc _
  have hs0 : Has ((w.alloc (.cells #[.int .i64 0, .slice none 0 0] 24)).alloc (.cells #[.int .i64 p, .slice none 0 0] 24)) (w.heap.size + 1) 24 [.int .i64 p, .slice none 0 0] := by
    have h := Has.new (w := (w.alloc (.cells #[.int .i64 0, .slice none 0 0] 24))) (arr := #[.int .i64 p, .slice none 0 0]) (t := 24) (cs := [.int .i64 p, .slice none 0 0]) rfl
    rwa [World.size_alloc] at h
  have hb0 : Below w.heap.size w ((w.alloc (.cells #[.int .i64 0, .slice none 0 0] 24)).alloc (.cells #[.int .i64 p, .slice none 0 0] 24)) := by go_grown
  obtain ⟨bs, hbs⟩ : ∃ bs, bs = w.heap.size + 1 := ⟨_, rfl⟩
  rw [← hbs] at hs0
  simp only [← hbs]
  have hbs2 : w.heap.size < bs := by omega
  clear hbs
  go_loopw [11, 12] (fun hv i wr => ∃ (k m : Nat) (h : Int) (A' : Option Addr) (c' : Nat), k ≤ n ∧ m ≤ k ∧ -1 ≤ h ∧ h ≤ 1000 ∧ i = .int .i64 (k : Int) ∧ hv = .int .i64 h ∧ Hid (m = (wksOf (l.take k)).length) ∧ Hid (Has wr w.heap.size 24 [.int .i64 0, .slice none 0 0]) ∧ Hid (Has wr bs 24 [.int .i64 p, .slice A' m c']) ∧ Hid (wr.ownsRow w.heap.size 26 3 (.slice A' m c') m (wksCells (wksOf (l.take k)))) ∧ Hid (shE p s h m (l.drop k) = E0) ∧ Hid (Below w.heap.size w wr)) (fun _ i _ => n - (intOf i).toNat)
  case atStart =>
    refine ⟨0, 0, -1, none, 0, Nat.zero_le _, Nat.le_refl _, by omega, by omega, rfl, rfl, rfl, hg0, hs0, World.ownsRow_nil _ _ _ _, ?_, hb0⟩
    show _ = _
    rw [List.drop_zero, HE0.out]
  case round =>
    clear hg0 hs0 hb0
    obtain ⟨k, m, h, A', c', hk, hmk, hh1, hh2, rfl, rfl, HM, HG, HSH, HO, HP, HB⟩ := hrel
    obtain ⟨wo, rfl⟩ : ∃ wo : World, wo = wr := ⟨_, rfl⟩
    by_cases hlt : k < n
    · have jk : (k : Int) < (n : Int) := by omega
      obtain ⟨x, hx⟩ := get_of_lt (l := l) (k := k) (by rw [HL.out]; exact hlt)
      obtain ⟨bl, o, hA, hb, c0, c1, c2⟩ := (HW.out.below HB.out (Nat.le_refl _)) k x hx
      subst hA
      have HX9 : Hid (∀ Z : World, Below w.heap.size w Z → Z.cell? ⟨bl, o + k * 3, none⟩ = some (.int .i64 x.kind) ∧ Z.cell? ⟨bl, o + k * 3 + 1, none⟩ = some (.int .i64 x.at_) ∧ Z.cell? ⟨bl, o + k * 3 + 2, none⟩ = some (.string x.word)) := fun Z hZ => by
        obtain ⟨b9, o9, e9, _, u0, u1, u2⟩ := (HW.out.below hZ (Nat.le_refl _)) k x hx
        injection e9 with e9; injection e9 with e1 e2
        subst e1 e2
        exact ⟨u0, u1, u2⟩
      have hwd := HS.out x (mem_of_get hx)
      have HP2 : Hid (l.drop k = x :: l.drop (k + 1)) := List.drop_eq_getElem?_toList_append.trans (by rw [hx]; rfl)
      have HT := Lib.hid (wksOf_take hx)
      clear hx
      obtain ⟨kd, at_, wd⟩ := x
      simp only [] at c0 c1 c2 hwd HX9
      have hzw := HB.out.size
      have hbw : bl < wo.heap.size := by omega
      have a1 : wo.cell? ⟨bs, 1, none⟩ = some (.slice A' m c') := HSH.out.cell 1
      have q1 := HSH.out.lt
      have CD := Lib.hid (fun (W : World) => do15 p s h kd at_ m wd W (by omega) (by omega) (by omega) hwd)
      obtain ⟨E, hE⟩ : ∃ E, E = doE p s h m ⟨kd, at_, wd⟩ := ⟨_, rfl⟩
      simp only [← hE] at CD
      have HE := Lib.hid hE
      clear hE hzw
      go_wp2
      have hxc := fun (x : Ext wo) => x.cell
      refine wp_region_ext (by kernel_rfl) (by kernel_rfl) ?_
      repeat (go_big_quiet_step ((go_at_call 48; exact ext_call ((CD.out _).mono (fun e w' h => ⟨h.1, h.2⟩)))))
      refine wpQuiet_nil ?_
      intro w3 hw'
      have hb3 := ext_below hw'; clear hw' hxc
      have H3 := Lib.hid (HSH.out.below hb3 HSH.out.lt)
      have G3 := Lib.hid (HG.out.below hb3 HG.out.lt)
      have O3 := Lib.hid (own_below HO.out hb3)
      have B3 := Lib.hid (bvia HB.out hb3)
      have hz3 : w.heap.size ≤ w3.heap.size := B3.out.size
      have hbn : bl ≠ bs := by omega
      have f0 := G3.out.free 0
      have f1 := G3.out.free 1
      have q0 := G3.out.lt
      have a0 : w3.cell? ⟨w.heap.size, 0, none⟩ = some (.int .i64 0) := G3.out.cell 0
      have a9 : w3.cell? ⟨w.heap.size, 1, none⟩ = some (.slice none 0 0) := G3.out.cell 1
      have z0 := (hb3.cell (p := ⟨bl, o + k * 3, none⟩) hbw).trans c0
      have z1 := (hb3.cell (p := ⟨bl, o + k * 3 + 1, none⟩) hbw).trans c1
      have z2 := (hb3.cell (p := ⟨bl, o + k * 3 + 2, none⟩) hbw).trans c2
      have z3 : w3.cell? ⟨bs, 1, none⟩ = some (.slice A' m c') := H3.out.cell 1
      clear HSH HG HO HB hb3 c0 c1 c2 a1 q1 hbw CD
      by_cases h0 : E = 0
      case neg =>
        have hne : (E != 0) = true := by simpa using h0
        have HQ : Hid (E0 = E) := by
          show _ = _
          rw [← HP.out, HP2.out, HE.out]
          exact shE_err (by rw [← HE.out]; exact h0)
        have HNE := Lib.hid h0
        clear h0
        go_wp2
        refine post_cell_tmp2 ((G3.out.set 0 _).set 1 _) rfl rfl rfl rfl rfl Try.underlying24 (by kernel_rfl) ⟨_, _, _, _, _, by rw [HQ.out]; rfl, (B3.out.setCell (p := ⟨w.heap.size, 0, none⟩) (Nat.le_refl _) _).setCell (p := ⟨w.heap.size, 1, none⟩) (Nat.le_refl _) _, fun h => absurd (HQ.out.symm.trans h) HNE.out⟩
      have hne : (E != 0) = false := by simpa using h0
      have HD := Lib.hid (HE.out.symm.trans h0)
      have HAT := Lib.hid (doE_at HD.out)
      clear h0 f0 f1 q0 a0 a9
      by_cases k1 : kd = 1
      · subst k1
        have HQ : Hid (shE p s at_ m (l.drop (k + 1)) = E0) := by
          show _ = _
          rw [← HP.out, HP2.out]
          exact (shE_reach HD.out rfl).symm
        go_wp2
        go_roundw
        case rel =>
          have hat := HAT.out.2.2
          simp only [] at hat
          exact ⟨k + 1, m, at_, A', c', by omega, by omega, by omega, by omega, by go_num, rfl, by show _ = _; rw [HT.out, wksOf_reach rfl, List.append_nil]; exact HM.out, G3, H3, by show World.ownsRow _ _ _ _ _ _ _; rw [HT.out, wksOf_reach rfl, List.append_nil]; exact O3.out, HQ, B3⟩
        case measure => simp [intOf]; omega
      · have k1' : (kd == 1) = false := by simpa using k1
        have HQ : Hid (shE p s h (m + 1) (l.drop (k + 1)) = E0) := by
          show _ = _
          rw [← HP.out, HP2.out]
          exact (shE_work HD.out k1).symm
        have HK1 := Lib.hid k1
        have HF : Hid (∀ Z : World, Below w3.heap.size w3 Z → Z.cell? ⟨bl, o + k * 3, none⟩ = some (.int .i64 kd) ∧ Z.cell? ⟨bl, o + k * 3 + 1, none⟩ = some (.int .i64 at_) ∧ Z.cell? ⟨bl, o + k * 3 + 2, none⟩ = some (.string wd)) := fun Z hZ => HX9.out Z (B3.out.trans (hZ.mono hz3))
        clear k1
        go_wp2
        refine wp_region_noPanic ?_
        refine wp_region_B (fun b w' => w'.cell? ⟨bl, o + k * 3, none⟩ = some (.int .i64 kd) ∧ w'.cell? ⟨bl, o + k * 3 + 1, none⟩ = some (.int .i64 at_) ∧ w'.cell? ⟨bl, o + k * 3 + 2, none⟩ = some (.string wd) ∧ (b = false → w'.cell? ⟨bs, 1, none⟩ = some (.slice A' m c'))) 10 (by kernel_rfl) ?_
        have hSSp : (fun b w' => w'.cell? ⟨bl, o + k * 3, none⟩ = some (.int .i64 kd) ∧ w'.cell? ⟨bl, o + k * 3 + 1, none⟩ = some (.int .i64 at_) ∧ w'.cell? ⟨bl, o + k * 3 + 2, none⟩ = some (.string wd) ∧ (b = false → w'.cell? ⟨bs, 1, none⟩ = some (.slice A' m c'))) false (w3.drew) := ⟨z0, z1, z2, fun _ => z3⟩
        refine wpAnyB_take (i := 0) (oi := _) (v := ?vvp1) (fun w' => w'.cell? ⟨bl, o + k * 3, none⟩ = some (.int .i64 kd) ∧ w'.cell? ⟨bl, o + k * 3 + 1, none⟩ = some (.int .i64 at_) ∧ w'.cell? ⟨bl, o + k * 3 + 2, none⟩ = some (.string wd)) rfl (by kernel_rfl) (by kernel_rfl) (by kernel_rfl) (by kernel_rfl) (by rfl) (fun _ h => ⟨h.1, h.2.1, h.2.2.1⟩) (.inl fun _ h => ⟨h.1, h.2.1, h.2.2.1⟩) (fun _ _ _ h => h) (.inl ⟨by rfl, ?hyp1⟩) hSSp ?_
        case hyp1 =>
          intro w' hSw
          try dsimp only at hSw
          go_simp
          all_goals with_reducible rfl
        try simp only [Act.put, List.setIfInBounds_toArray]
        refine wpAnyB_take (i := 1) (oi := _) (v := ?vvp2) (fun w' => w'.cell? ⟨bl, o + k * 3, none⟩ = some (.int .i64 kd) ∧ w'.cell? ⟨bl, o + k * 3 + 1, none⟩ = some (.int .i64 at_) ∧ w'.cell? ⟨bl, o + k * 3 + 2, none⟩ = some (.string wd) ∧ w'.cell? ⟨bs, 1, none⟩ = some (.slice A' m c')) rfl (by kernel_rfl) (by kernel_rfl) (by kernel_rfl) (by kernel_rfl) (by rfl) (fun _ h => ⟨h.1, h.2.1, h.2.2.1, h.2.2.2 rfl⟩) (.inr (by kernel_rfl)) (fun _ _ _ h => h) (.inl ⟨by rfl, ?hyp2⟩) hSSp ?_
        case hyp2 =>
          intro w' hSw
          try dsimp only at hSw
          go_simp
          all_goals with_reducible rfl
        try simp only [Act.put]
        refine wpAnyB_take (i := 2) (oi := _) (v := ?vvp3) (fun w' => w'.cell? ⟨bl, o + k * 3, none⟩ = some (.int .i64 kd) ∧ w'.cell? ⟨bl, o + k * 3 + 1, none⟩ = some (.int .i64 at_) ∧ w'.cell? ⟨bl, o + k * 3 + 2, none⟩ = some (.string wd)) rfl (by kernel_rfl) (by kernel_rfl) (by kernel_rfl) (by kernel_rfl) (by rfl) (fun _ h => ⟨h.1, h.2.1, h.2.2.1⟩) (.inl fun _ h => ⟨h.1, h.2.1, h.2.2.1⟩) (fun _ _ _ h => h) (.inl ⟨by rfl, ?hyp3⟩) hSSp ?_
        case hyp3 =>
          intro w' hSw
          try dsimp only at hSw
          go_simp
          all_goals with_reducible rfl
        try simp only [Act.put]
        refine wpAnyB_take (i := 3) (oi := _) (v := ?vvp4) (fun w' => w'.cell? ⟨bl, o + k * 3, none⟩ = some (.int .i64 kd) ∧ w'.cell? ⟨bl, o + k * 3 + 1, none⟩ = some (.int .i64 at_) ∧ w'.cell? ⟨bl, o + k * 3 + 2, none⟩ = some (.string wd)) rfl (by kernel_rfl) (by kernel_rfl) (by kernel_rfl) (by kernel_rfl) (by rfl) (fun _ h => ⟨h.1, h.2.1, h.2.2.1⟩) (.inl fun _ h => ⟨h.1, h.2.1, h.2.2.1⟩) (fun _ _ _ h => h) (.inl ⟨by rfl, ?hyp4⟩) hSSp ?_
        case hyp4 =>
          intro w' hSw
          try dsimp only at hSw
          go_simp
          all_goals with_reducible rfl
        try simp only [Act.put]
        refine wpAnyB_take (i := 4) (oi := _) (v := ?vvp5) (fun w' => w'.cell? ⟨bl, o + k * 3, none⟩ = some (.int .i64 kd) ∧ w'.cell? ⟨bl, o + k * 3 + 1, none⟩ = some (.int .i64 at_) ∧ w'.cell? ⟨bl, o + k * 3 + 2, none⟩ = some (.string wd)) rfl (by kernel_rfl) (by kernel_rfl) (by kernel_rfl) (by kernel_rfl) (by rfl) (fun _ h => ⟨h.1, h.2.1, h.2.2.1⟩) (.inl fun _ h => ⟨h.1, h.2.1, h.2.2.1⟩) (fun _ _ _ h => h) (.inl ⟨by rfl, ?hyp5⟩) hSSp ?_
        case hyp5 =>
          intro w' hSw
          try dsimp only at hSw
          go_simp
          all_goals with_reducible rfl
        try simp only [Act.put]
        refine wpAnyB_take (i := 5) (oi := _) (v := ?vvp6) (fun w' => w'.cell? ⟨bl, o + k * 3, none⟩ = some (.int .i64 kd) ∧ w'.cell? ⟨bl, o + k * 3 + 1, none⟩ = some (.int .i64 at_) ∧ w'.cell? ⟨bl, o + k * 3 + 2, none⟩ = some (.string wd)) rfl (by kernel_rfl) (by kernel_rfl) (by kernel_rfl) (by kernel_rfl) (by rfl) (fun _ h => ⟨h.1, h.2.1, h.2.2.1⟩) (.inl fun _ h => ⟨h.1, h.2.1, h.2.2.1⟩) (fun _ _ _ h => h) (.inl ⟨by rfl, ?hyp6⟩) hSSp ?_
        case hyp6 =>
          intro w' hSw
          try dsimp only at hSw
          go_simp
          all_goals with_reducible rfl
        try simp only [Act.put]
        refine wpAnyB_one (i := 6) false rfl (by kernel_rfl) (by kernel_rfl) ?_
        intro KK hKK
        go_simp
        refine (work15 kd at_ wd _).mono ?_
        rintro e w7 ⟨rfl, hb7⟩
        dsimp only
        have D7 : Below w3.heap.size w3 w7 := (Below.refl w3.heap.size w3).drew.trans hb7
        have K7 := H3.out.drew.below hb7 H3.out.lt
        have G7 := G3.out.drew.below hb7 G3.out.lt
        have O7 := own_below (w := w3.drew) O3.out hb7
        have f7 := HF.out w7 D7
        have n7 : w.heap.size ≤ w7.heap.size := Nat.le_trans hz3 D7.size
        clear hb7
        refine hKK.out _ _ ⟨f7.1, f7.2.1, f7.2.2, fun _ => K7.cell 1⟩ ?_
        clear hKK KK
        try simp only [Act.put, List.setIfInBounds_toArray, List.set_cons_zero, List.set_cons_succ]
        refine wpAnyB_one (i := 7) false rfl (by kernel_rfl) (by kernel_rfl) ?_
        intro KK hKK
        go_simp
        have D8 := D7.alloc D7.size (.cells #[.int .i64 (workOf ⟨kd, at_, wd⟩).kind, .int .i64 (workOf ⟨kd, at_, wd⟩).at_, .string (workOf ⟨kd, at_, wd⟩).word] 26)
        have K8 := K7.alloc (.cells #[.int .i64 (workOf ⟨kd, at_, wd⟩).kind, .int .i64 (workOf ⟨kd, at_, wd⟩).at_, .string (workOf ⟨kd, at_, wd⟩).word] 26)
        have G8 := G7.alloc (.cells #[.int .i64 (workOf ⟨kd, at_, wd⟩).kind, .int .i64 (workOf ⟨kd, at_, wd⟩).at_, .string (workOf ⟨kd, at_, wd⟩).word] 26)
        have O8 := O7.alloc (.cells #[.int .i64 (workOf ⟨kd, at_, wd⟩).kind, .int .i64 (workOf ⟨kd, at_, wd⟩).at_, .string (workOf ⟨kd, at_, wd⟩).word] 26)
        have f8 := HF.out _ D8
        have news8 := news_wk w7 (workOf ⟨kd, at_, wd⟩) 26
        have n8 : w.heap.size ≤ (w7.alloc (.cells #[.int .i64 (workOf ⟨kd, at_, wd⟩).kind, .int .i64 (workOf ⟨kd, at_, wd⟩).at_, .string (workOf ⟨kd, at_, wd⟩).word] 26)).heap.size := Nat.le_trans hz3 D8.size
        refine hKK.out _ _ ⟨f8.1, f8.2.1, f8.2.2, fun _ => K8.cell 1⟩ ?_
        clear hKK KK
        try simp only [Act.put, List.setIfInBounds_toArray, List.set_cons_zero, List.set_cons_succ]
        refine wpAnyB_one (i := 8) false rfl (by kernel_rfl) (by kernel_rfl) ?_
        intro KK hKK
        refine step_appN rfl (.tmp 61) (.tmp 67) _ rfl w.heap.size 26 (.agg #[.int .i64 0, .int .i64 0, .string ⟨#[]⟩]) 3 32 Try.underlying22 infoWk rfl (by omega) (by omega) (.slice A' m c') m (wksCells (wksOf (l.take k))) rfl O8 ⟨w7.heap.size, 0, none⟩ 1 1 (wkCells (workOf ⟨kd, at_, wd⟩)) rfl rfl (fun j u hu => by rw [Addr.add_lit, Nat.zero_add]; exact news8 j u hu) (one_wk _) (by omega) n8 ?_
        intro v9 w9 ho9 hg9 _ hor9
        obtain ⟨A9', c9', hv9⟩ := own_form ho9
        subst hv9
        have K9 := K8.same (hg9.block bs K8.lt (fun e => (K8.ne_own O8 (by decide)) e.symm))
        have G9 := G8.same (hg9.block w.heap.size G8.lt (fun e => (G8.ne_own O8 (by decide)) e.symm))
        have D9 : Below w.heap.size w w9 := (B3.out.trans (D8.mono hz3)).grown hg9 n8 (fun k hk => (O8.lt k hk).1)
        have f9 : w9.cell? ⟨bl, o + k * 3, none⟩ = some (.int .i64 kd) ∧ w9.cell? ⟨bl, o + k * 3 + 1, none⟩ = some (.int .i64 at_) ∧ w9.cell? ⟨bl, o + k * 3 + 2, none⟩ = some (.string wd) := HX9.out w9 D9
        refine hKK.out _ _ ⟨f9.1, f9.2.1, f9.2.2, fun _ => K9.cell 1⟩ ?_
        clear hKK KK
        try simp only [Act.put, List.setIfInBounds_toArray]
        refine wpAnyB_one (i := 9) false rfl (by kernel_rfl) (by kernel_rfl) ?_
        intro KK hKK
        have g9 := K9.lt
        go_simp
        refine hKK.out _ _ ⟨f9.1, f9.2.1, f9.2.2, fun _ => K9.cell 1⟩ ?_
        clear hKK KK
        try simp only [Act.put, List.setIfInBounds_toArray, List.set_cons_zero, List.set_cons_succ]
        refine wpAnyB_one (i := 10) true rfl (by kernel_rfl) (by kernel_rfl) ?_
        intro KK hKK
        have g0 := K9.cell 1
        have g1 := K9.free 1
        have g2 := K9.lt
        go_simp
        have f10 : ∀ i, (w9.setCell ⟨bs, 1, none⟩ (.slice A9' (m + 1) c9')).cell? ⟨bl, i, none⟩ = w9.cell? ⟨bl, i, none⟩ := fun i => World.cell?_of_block (Below.heap_setCell w9 ⟨bs, 1, none⟩ _ bl (by show bl ≠ bs; omega))
        refine hKK.out _ _ ⟨(f10 _).trans f9.1, (f10 _).trans f9.2.1, (f10 _).trans f9.2.2, fun hh => by cases hh⟩ ?_
        clear hKK KK
        try simp only [Act.put, List.setIfInBounds_toArray, List.set_cons_zero, List.set_cons_succ]
        refine wpAnyB_done (by kernel_rfl) (NoPanic.normal ?_) _
        go_wp2
        go_roundw
        case rel =>
          have ho9' : (w9.setCell ⟨bs, 1, none⟩ (.slice A9' (m + 1) c9')).ownsRow w.heap.size 26 3 (.slice A9' (m + 1) c9') (m + 1) (wksCells (wksOf (l.take k) ++ [workOf ⟨kd, at_, wd⟩])) := by
            rw [wksCells_app]
            exact (But.set bs w9 1 (.slice A9' (m + 1) c9')).own ho9 (K9.ne_own ho9 (by decide))
          exact ⟨k + 1, m + 1, h, A9', c9', by omega, by omega, by omega, by omega, by go_num, rfl, by show _ = _; rw [HT.out, wksOf_work HK1.out, List.length_append, ← HM.out]; rfl, G9.far (by omega) _ _, K9.set 1 _, by show World.ownsRow _ _ _ _ _ _ _; rw [HT.out, wksOf_work HK1.out]; exact ho9', HQ, D9.setCell (p := ⟨bs, 1, none⟩) (by show _ ≤ bs; omega) _⟩
        case measure => simp [intOf]; omega
    · obtain rfl : k = n := by omega
      have a0 : wo.cell? ⟨bs, 0, none⟩ = some (.int .i64 p) := HSH.out.cell 0
      have a1 : wo.cell? ⟨bs, 1, none⟩ = some (.slice A' m c') := HSH.out.cell 1
      have q1 := HSH.out.lt
      have f0 := HG.out.free 0
      have f1 := HG.out.free 1
      have q0 := HG.out.lt
      have g0 : wo.cell? ⟨w.heap.size, 0, none⟩ = some (.int .i64 0) := HG.out.cell 0
      have g1 : wo.cell? ⟨w.heap.size, 1, none⟩ = some (.slice none 0 0) := HG.out.cell 1
      have HQ : Hid (E0 = 0) := by
        show _ = _
        rw [← HP.out, List.drop_of_length_le (by rw [HL.out]; exact Nat.le_refl _)]; rfl
      have HR : Hid (RdW wo wo.heap.size A' (wksOf l)) := by
        have h := own_rdW HO.out
        rwa [List.take_of_length_le (by rw [HL.out]; exact Nat.le_refl _)] at h
      have HN : Hid ((wksOf l).length = m) := by
        have h := HM.out
        rw [List.take_of_length_le (by rw [HL.out]; exact Nat.le_refl _)] at h
        exact h.symm
      go_wp2
      refine post_cell_tmp2 ((HG.out.set 0 _).set 1 _) rfl rfl rfl rfl rfl Try.underlying24 (by kernel_rfl) ⟨p, A', m, c', 0, by rw [HQ.out]; rfl, (HB.out.setCell (p := ⟨w.heap.size, 0, none⟩) (Nat.le_refl _) _).setCell (p := ⟨w.heap.size, 1, none⟩) (Nat.le_refl _) _, fun _ => ⟨rfl, ?_, HN.out, (own_caps HO.out).1, (own_caps HO.out).2⟩⟩
      intro j y hy
      obtain ⟨b', o', h1, h2, h3, h4, h5⟩ := HR.out j y hy
      have hne : b' ≠ w.heap.size := fun e => (HG.out.ne_own HO.out (by decide)) (by rw [h1]; show some b' = _; rw [e])
      have ee : ∀ i, ((wo.setCell ⟨w.heap.size, 0, none⟩ (.int .i64 p)).setCell ⟨w.heap.size, 1, none⟩ (.slice A' m c')).cell? ⟨b', i, none⟩ = wo.cell? ⟨b', i, none⟩ := fun i => World.cell?_of_block ((Below.heap_setCell _ ⟨w.heap.size, 1, none⟩ _ b' hne).trans (Below.heap_setCell _ ⟨w.heap.size, 0, none⟩ _ b' hne))
      exact ⟨b', o', h1, by simpa [World.setCell] using h2, (ee _).trans h3, (ee _).trans h4, (ee _).trans h5⟩
end Go.Proofs.Ytnjenggijmbhcaa
