/-
  Contract of chapter 16: the law's awake.
-/
import Derived.Test.YtaenafcecfdffaaVB1
import Derived.Test.YtaenafcecfdffaaVB2
import Derived.Test.YtaenafcecfdffaaVB9
import Derived.Test.YtaenafcecfdffaaVB11
import Derived.Test.YtaenafcecfdffaaVB14
import Derived.Laws.StructEq
namespace Go.Proofs.Ytaenafcecfdffaa
open Go.RowKit
def awZ0 : Pil := pil0 (lineN 4)
def awX1 : Wk := ⟨1, 0, ⟨#[]⟩⟩
def awX2 : Wk := ⟨2, 0, ⟨#[67, 84, 80]⟩⟩
def awZ1 : Pil := awZ0.step awX1
def awZ2 : Pil := awZ1.step awX2
theorem aw_new : csE 2 2 [] = 0 := by decide +kernel
theorem aw_err : pilE 2 2 awZ0 ⟨2, 0, ⟨#[67]⟩⟩ = 9 := by decide +kernel
theorem aw_one : pilE 2 2 awZ0 awX1 = 0 := by decide +kernel
theorem aw_two : pilE 2 2 awZ1 awX2 = 0 := by decide +kernel
theorem aw_line : awZ2.l = [2, 0, 3, 1] := by decide +kernel
theorem aw_pins : ∃ x, awZ2.ps = [x] ∧ pullE x = 0 := by
  have h1 : awZ2.ps.length = 1 := by decide +kernel
  have h2 : awZ2.ps.map pullE = [0] := by decide +kernel
  cases h : awZ2.ps with
  | nil => rw [h] at h1; cases h1
  | cons x l =>
    rw [h] at h1 h2
    obtain rfl : l = [] := by cases l with
      | nil => rfl
      | cons y l => simp at h1
    exact ⟨x, rfl, by simpa using h2⟩
theorem aw_len : awZ0.steps.length = 0 ∧ awZ1.steps.length = 1 ∧ awZ0.marks.length = 0 ∧ awZ1.marks.length = 1 ∧ awZ0.works.length = 0 ∧ awZ1.works.length = 0 ∧ awZ0.xs.length = 0 ∧ awZ1.xs.length = 0 ∧ awZ0.ps.length = 0 ∧ awZ1.ps.length = 0 ∧ awZ0.l.length = 4 ∧ awZ1.l.length = 4 ∧ awZ2.l.length = 4 := by decide +kernel
set_option maxRecDepth 100000 in
set_option maxHeartbeats 4000000 in
theorem awakeP (w : World) : Calls Try.prog 10 #[] w fun e w' => e = .returned (.bool true) ∧ Below w.heap.size w w' := by
  obtain ⟨l1, l2, l3, l4, l5, l6, l7, l8, l9, l10, l11, l12, l13⟩ := aw_len
  go_enter Try.func10, Try.ntmps10
  go_wp2_with fail
  refine (newC 2 2 _ aw_new).mono ?_
  rintro e w1 ⟨⟨g, S1, M1, V1, L1, X1, P1, rfl, h1⟩, hb1⟩
  have H1 : Hid (PilH w1 w.heap.size g 2 2 awZ0 S1 M1 V1 L1 X1 P1) := h1
  have B1 := Lib.hid hb1
  clear h1 hb1
  go_wp2_with fail
  have D1 := doErr w.heap.size g 2 2 awZ0 _ _ _ _ _ _ 2 0 ⟨#[67]⟩ w1 H1.out (by decide) (by decide) (by omega) (by rw [aw_err]; decide)
  rw [aw_err] at D1
  refine D1.mono ?_
  rintro e w2 ⟨rfl, h2, hb2⟩
  have H2 := Lib.hid h2
  have B2 := Lib.hid (bvia B1.out hb2)
  clear h2 hb2 H1 B1 D1
  go_wp2_with fail
  refine (doC w.heap.size g 2 2 awZ0 _ _ _ _ _ _ awX1 w2 H2.out (by decide) (by omega) (by omega) (by omega) (by omega) (by omega) (by rw [l11]; rfl) aw_one).mono ?_
  rintro e w3 ⟨rfl, ⟨S3, M3, V3, L3, X3, P3, h3, _⟩, hb3⟩
  have H3 : Hid (PilH w3 w.heap.size g 2 2 awZ1 S3 M3 V3 L3 X3 P3) := h3
  have B3 := Lib.hid (B2.out.trans hb3)
  clear h3 hb3 H2 B2
  go_wp2_with fail
  refine (doC w.heap.size g 2 2 awZ1 _ _ _ _ _ _ awX2 w3 H3.out (by decide) (by omega) (by omega) (by omega) (by omega) (by omega) (by rw [l12]; rfl) aw_two).mono ?_
  rintro e w4 ⟨rfl, ⟨S4, M4, V4, L4, X4, P4, h4, _⟩, hb4⟩
  have H4 : Hid (PilH w4 w.heap.size g 2 2 awZ2 S4 M4 V4 L4 X4 P4) := h4
  have B4 := Lib.hid (B3.out.trans hb4)
  clear h4 hb4 H3 B3
  go_wp2_with fail
  refine (lineC w.heap.size g 2 2 awZ2 _ _ _ _ _ _ w4 H4.out (by decide) (by omega)).mono ?_
  rintro e w5 ⟨A5, n5, c5, rfl, r5, k5, hb5⟩
  have R5 := Lib.hid r5
  have H5 := Lib.hid (RowsH.below H4.out hb5)
  have B5 := Lib.hid (bvia B4.out hb5)
  have K5 := Lib.hid k5
  have hn5 : n5 = 4 := by rw [← k5, l13]
  clear r5 hb5 k5 H4 B4
  have OL : (w5.alloc (.cells #[.int .i64 2, .int .i64 0, .int .i64 3, .int .i64 1] 3)).ownsRow w5.heap.size 3 1 (.slice (some ⟨w5.heap.size, 0, none⟩) 4 4) 4 (([2, 0, 3, 1] : List Int).map vInt) := World.ownsRow_lit w5 #[.int .i64 2, .int .i64 0, .int .i64 3, .int .i64 1] 4 (Nat.le_refl _) (by unfold maxLen; omega) rfl
  have CS := sameInts04 A5 (some ⟨w5.heap.size, 0, none⟩) n5 4 c5 4 awZ2.l [2, 0, 3, 1] _ (by omega) (by decide) (Rd1.up (own_rd1 R5.out) ((Below.refl _ w5).alloc (Nat.le_refl _) (.cells #[.int .i64 2, .int .i64 0, .int .i64 3, .int .i64 1] 3))) (own_rd1 OL) K5.out rfl
  rw [aw_line] at CS
  subst hn5
  have CS' := Lib.hid CS
  have H6 := Lib.hid (RowsH.below H5.out ((Below.refl _ w5).alloc (Nat.le_refl _) (.cells #[.int .i64 2, .int .i64 0, .int .i64 3, .int .i64 1] 3)))
  have B6 := Lib.hid (bvia B5.out (show Below w5.heap.size w5 (w5.alloc (.cells #[.int .i64 2, .int .i64 0, .int .i64 3, .int .i64 1] 3)) by go_grown))
  clear CS OL H5 B5
  go_wp2_with fail
  refine CS'.out.mono ?_
  rintro e w6 ⟨rfl, hb6⟩
  have H7 := Lib.hid (RowsH.below H6.out hb6)
  have B7 := Lib.hid (bvia B6.out hb6)
  clear H6 B6 hb6 CS'
  obtain ⟨x, hx, hpx⟩ := aw_pins
  have hx0 : awZ2.ps[0]? = some x := by rw [hx]; rfl
  have P1 := pullC w.heap.size g 2 2 awZ2 _ _ _ _ _ _ 0 x w6 H7.out (by decide) hx0
  rw [hpx, show awZ2.pulled 0 x = awZ2.pull 0 from if_pos hpx] at P1
  have P1' := Lib.hid P1
  have hz3 : (awZ2.pull 0).ps = [{ x with out := true }] := by unfold Pil.pull; rw [hx0]; simp [hx]
  have hsew : x.sew = false := by
    cases hs : x.sew with
    | false => rfl
    | true => unfold pullE at hpx; rw [hs] at hpx; cases hpx
  have hx3 : (awZ2.pull 0).ps[0]? = some { x with out := true } := by rw [hz3]; rfl
  have hp3 : pullE { x with out := true } = 8 := by unfold pullE; simp [hsew]
  have hst : standL (awZ2.pull 0).ps (awZ2.pull 0).ps.length = [] := by
    rw [hz3]; simp [standL, standB]
  clear P1
  generalize awZ2.pull 0 = z3 at *
  go_wp2_with fail
  refine P1'.out.mono ?_
  rintro e w7 ⟨rfl, h7, hb7⟩
  have H8 := Lib.hid h7
  have B8 := Lib.hid (B7.out.trans hb7)
  clear h7 hb7 H7 B7 P1'
  have P2 := pullC w.heap.size g 2 2 z3 _ _ _ _ _ _ 0 _ w7 H8.out (by decide) hx3
  rw [hp3, show z3.pulled 0 { x with out := true } = z3 from if_neg (by rw [hp3]; decide)] at P2
  have P2' := Lib.hid P2
  clear P2
  go_wp2_with fail
  refine P2'.out.mono ?_
  rintro e w8 ⟨rfl, h8, hb8⟩
  have H9 := Lib.hid h8
  have B9 := Lib.hid (B8.out.trans hb8)
  clear h8 hb8 H8 B8 P2'
  have P3 := standC w.heap.size g 2 2 z3 _ _ _ _ _ _ w8 H9.out (by decide) (by rw [hz3]; simp)
  rw [hst] at P3
  have P3' := Lib.hid P3
  clear P3
  go_wp2_with fail
  refine P3'.out.mono ?_
  rintro e w9 ⟨A9, n9, c9, rfl, r9, k9, hb9⟩
  obtain rfl : 0 = n9 := k9
  have B10 := Lib.hid (bvia B9.out hb9)
  clear r9 hb9 H9 B9 P3'
  go_wp2
  go_ret
  exact ⟨rfl, B10.out⟩
end Go.Proofs.Ytaenafcecfdffaa
/-
  Two works compared by == and !=, as the model runs it.
-/
namespace Go.Proofs.Ytaenafcecfdffaa
open Go.RowKit
theorem wkHeld : Try.prog.stoodInHeld 86 = false := by kernel_rfl
theorem wkGuard : Try.prog.eqGuardType Try.prog.depth 86 = false := by kernel_rfl
theorem wk_beq (x y : Wk) : (x == y) = (x.kind == y.kind && (x.at_ == y.at_ && x.word.toList == y.word.toList)) := by
  rw [Bool.eq_iff_iff]
  simp only [beq_iff_eq, Bool.and_eq_true, ByteArray.toList_eq]
  constructor
  · rintro rfl; exact ⟨rfl, rfl, rfl⟩
  · rintro ⟨h1, h2, h3⟩
    cases x with | mk a b c => cases y with | mk a' b' c' =>
      simp only at h1 h2 h3
      subst h1; subst h2
      have : c = c' := by
        cases c with | mk c => cases c' with | mk c' =>
          simp only [ByteArray.mk.injEq]
          exact Array.toList_inj.1 h3
      rw [this]
theorem neq_wk (x y : Wk) (w : World) : (binOp .neq 86 (.agg #[.int .i64 x.kind, .int .i64 x.at_, .string x.word]) (.agg #[.int .i64 y.kind, .int .i64 y.at_, .string y.word])).run Try.prog w = .ok (.bool (!(x == y))) w := by
  have e1 := wkHeld
  rw [wk_beq]
  cases h1 : x.kind == y.kind <;> cases h2 : x.at_ == y.at_ <;> cases h3 : x.word.toList == y.word.toList <;>
  simp [go_sem, e1, h1, h2, h3, Try.underlying86, Try.underlying3, Try.underlying9]
theorem eql_wk (x y : Wk) (w : World) : (binOp .eql 86 (.agg #[.int .i64 x.kind, .int .i64 x.at_, .string x.word]) (.agg #[.int .i64 y.kind, .int .i64 y.at_, .string y.word])).run Try.prog w = .ok (.bool (x == y)) w := by
  have e1 := wkHeld
  rw [wk_beq]
  cases h1 : x.kind == y.kind <;> cases h2 : x.at_ == y.at_ <;> cases h3 : x.word.toList == y.word.toList <;>
  simp [go_sem, e1, h1, h2, h3, Try.underlying86, Try.underlying3, Try.underlying9]
end Go.Proofs.Ytaenafcecfdffaa
/-
  Contract of torchonref04.Same: two sheets are equal.
-/
namespace Go.Proofs.Ytaenafcecfdffaa
open Go.RowKit
attribute [local go_sem 10000] neq_wk
set_option maxRecDepth 100000 in
set_option maxHeartbeats 400000 in
theorem same04 (p q : Int) (A B : Option Addr) (n m c d : Nat) (xs ys : List Wk) (w : World) (hn : n ≤ 9223372036854775807) (hm : m ≤ 9223372036854775807) (hx : RdW w w.heap.size A xs) (hy : RdW w w.heap.size B ys) (hl : xs.length = n) (hl' : ys.length = m) :
    Calls Try.prog 13 #[.agg #[.int .i64 p, .slice A n c], .agg #[.int .i64 q, .slice B m d]] w fun e w' => e = .returned (.bool (p == q && xs == ys)) ∧ Below w.heap.size w w' := by
  have HX := Lib.hid hx; clear hx
  have HY := Lib.hid hy; clear hy
  have HL := Lib.hid hl; clear hl
  have HM := Lib.hid hl'; clear hl'
  by_cases hpq : p = q
  · subst hpq
    by_cases hnm : n = m
    · subst hnm
      go_enter Try.func13, Try.ntmps13
      go_wp2
      go_loopw [5] (fun i wr => ∃ k : Nat, k ≤ n ∧ i = .int .i64 k ∧ Below w.heap.size w wr ∧ wr.cell? ⟨w.heap.size, 1, none⟩ = some (.slice A n c) ∧ wr.cell? ⟨w.heap.size + 1, 1, none⟩ = some (.slice B n d) ∧ (∀ (j : Nat) (x : Wk), j < k → xs[j]? = some x → ys[j]? = some x)) (fun i _ => n - (intOf i).toNat)
      case atStart => exact ⟨0, Nat.zero_le _, rfl, by go_grown, by go_simp, by go_simp, fun j _ hj => absurd hj (by omega)⟩
      case round =>
        obtain ⟨k, hk, rfl, hbw, d1, d2, hno⟩ := hrel
        have H := Lib.hid hno; clear hno
        by_cases hlt : k < n
        · obtain ⟨x, hx⟩ := get_of_lt (l := xs) (k := k) (by rw [HL.out]; exact hlt)
          obtain ⟨y, hy⟩ := get_of_lt (l := ys) (k := k) (by rw [HM.out]; exact hlt)
          obtain ⟨b, o, rfl, hb, c1, c2, c3⟩ := (HX.out.below hbw (Nat.le_refl _)) k x hx
          obtain ⟨b', o', rfl, hb', c1', c2', c3'⟩ := (HY.out.below hbw (Nat.le_refl _)) k y hy
          have HX' := Lib.hid hx; clear hx
          have HY' := Lib.hid hy; clear hy
          have e2 := wkGuard
          go_wp2
          go_quiet (fail)
          go_wp2
          · go_ret
            exact ⟨ret_bool (by rw [beq_self_eq_true, Bool.true_and]; exact beq_false (ne_of_get HX'.out HY'.out (by simpa using ‹(!x == y) = true›))), below_drewN hbw _⟩
          · go_roundw
            case rel => exact ⟨k + 1, by omega, by go_num, below_drewN hbw _, by go_simp, by go_simp, pw_step H.out HX'.out HY'.out (by simpa using ‹(!x == y) = false›)⟩
            case measure => simp [intOf]; omega
        · go_wp2
          go_ret
          exact ⟨ret_bool (by rw [beq_self_eq_true, Bool.true_and]; exact beq_true (eq_of_get (by rw [HL.out, HM.out]) (fun j x hx => H.out j x (by have := lt_of_get hx; rw [HL.out] at this; omega) hx))), hbw⟩
    · go_enter Try.func13, Try.ntmps13
      go_wp2
      go_ret
      exact ⟨ret_bool (by rw [beq_self_eq_true, Bool.true_and]; exact beq_false (ne_of_len HL.out HM.out hnm)), by go_grown⟩
  · go_enter Try.func13, Try.ntmps13
    go_wp2
    go_ret
    exact ⟨ret_bool (by rw [show (p == q) = false by simpa using hpq]; rfl), by go_grown⟩
end Go.Proofs.Ytaenafcecfdffaa
/-
  Walk of the law PillowMakes.
-/
namespace Go.Proofs.Ytaenafcecfdffaa
open Go.RowKit
def ckS (p s : Int) (ws : List Wk) : Int := if schk p ws ≠ 0 then schk p ws else if spB p s = false then 7 else 0
set_option maxRecDepth 100000 in
set_option maxHeartbeats 1000000 in
theorem check15 (p s : Int) (A : Option Addr) (n c : Nat) (ws : List Wk) (w : World) (hn : n ≤ 9223372036854775807) (hw : RdW w w.heap.size A ws) (hl : ws.length = n) (hs : ∀ x ∈ ws, x.word.size ≤ 9223372036854775807) :
    Calls Try.prog 30 #[.agg #[.int .i64 p, .slice A n c], .int .i64 s] w fun e w' => e = .returned (.int .i64 (ckS p s ws)) ∧ Below w.heap.size w w' := by
  have CK := Lib.hid (fun (W : World) (hb : Below w.heap.size w W) => check04 p A n c ws W hn (hw.up hb) hl hs)
  have K0 : Has (w.alloc (.cells #[.int .i64 p, .slice A n c] 24)) w.heap.size 24 [.int .i64 p, .slice A n c] := Has.new rfl
  have CP := Lib.hid (fun W => spans15 p s W)
  obtain ⟨er, her⟩ : ∃ er, er = schk p ws := ⟨_, rfl⟩
  rw [← her] at CK
  have HC : Hid (ckS p s ws = if er ≠ 0 then er else if spB p s = false then 7 else 0) := by rw [her]; rfl
  clear her hw hl hs
  by_cases h0 : er = 0
  · subst h0
    obtain ⟨b, hb⟩ : ∃ b, b = spB p s := ⟨_, rfl⟩
    rw [← hb] at CP HC
    clear hb
    go_enter Try.func30, Try.ntmps30
    go_wp2_with fail
    refine (CK.out _ (by go_grown)).mono ?_
    rintro e w1 ⟨rfl, hb1⟩
    have K1 := K0.below hb1 K0.lt
    have a0 : w1.cell? ⟨w.heap.size, 0, none⟩ = some (.int .i64 p) := K1.cell 0
    have q0 := K1.lt
    have B1 := Lib.hid (bvia (show Below w.heap.size w _ by go_grown) hb1)
    clear hb1 K0 CK K1
    go_wp2_with fail
    refine (CP.out _).mono ?_
    rintro e w2 ⟨rfl, rfl⟩
    cases b with
    | true =>
      go_wp2
      go_ret
      rw [HC.out]
      exact ⟨rfl, B1.out⟩
    | false =>
      go_wp2
      go_ret
      rw [HC.out]
      exact ⟨rfl, B1.out⟩
  · rw [if_pos h0] at HC
    have e1 : (er == 0) = false := by simpa using h0
    clear h0
    go_enter Try.func30, Try.ntmps30
    go_wp2_with fail
    refine (CK.out _ (by go_grown)).mono ?_
    rintro e w1 ⟨rfl, hb1⟩
    have B1 := Lib.hid (bvia (show Below w.heap.size w _ by go_grown) hb1)
    clear hb1 K0 CK
    go_wp2
    go_ret
    rw [HC.out]
    exact ⟨rfl, B1.out⟩
set_option maxRecDepth 100000 in
set_option maxHeartbeats 1000000 in
theorem stepsC (p s : Int) (A : Option Addr) (n c : Nat) (ws : List Wk) (w : World) (hn : n ≤ 9223372036854775807) (hw : RdW w w.heap.size A ws) (hl : ws.length = n) (hs : ∀ x ∈ ws, x.word.size ≤ 9223372036854775807) :
    Calls Try.prog 9 #[.agg #[.int .i64 p, .slice A n c], .int .i64 s] w fun e w' => (ckS p s ws ≠ 0 ∧ e = .returned (.tuple #[.slice none 0 0, .int .i64 (ckS p s ws)]) ∨ ckS p s ws = 0 ∧ ∃ A' n' c', e = .returned (.tuple #[.slice A' n' c', .int .i64 0]) ∧ w'.ownsRow w.heap.size 35 3 (.slice A' n' c') n' (wksCells (stAll p s (-1) ws)) ∧ (stAll p s (-1) ws).length = n') ∧ Below w.heap.size w w' := by
  have CK := Lib.hid (fun (W : World) (hb : Below w.heap.size w W) => check15 p s A n c ws W hn (hw.up hb) hl hs)
  have K0 : Has (w.alloc (.cells #[.int .i64 p, .slice A n c] 24)) w.heap.size 24 [.int .i64 p, .slice A n c] := Has.new rfl
  by_cases h0 : ckS p s ws = 0
  · have hz : schk p ws = 0 ∧ spB p s = true := by
      unfold ckS at h0
      by_cases e : schk p ws = 0
      · rw [if_neg (by simpa using e)] at h0
        cases hb : spB p s with
        | true => exact ⟨e, rfl⟩
        | false => rw [hb] at h0; cases h0
      · rw [if_pos e] at h0; exact absurd h0 e
    have hok := schk_zero hz.1
    have hsp : 2 ≤ s ∧ s ≤ 8 ∧ s ≤ p := of_decide_eq_true hz.2
    have hlen := hok.len
    have CT := Lib.hid (fun (W : World) (hb : Below w.heap.size w W) => steps15 p s A n c ws W (hw.up hb) hl (by omega) ⟨hok.ge, hok.le⟩ hsp (fun x hx => by
      have h1 := hok.good x hx
      unfold wkBad at h1
      simp at h1
      have := hok.le
      omega))
    rw [h0] at CK
    have H0 := Lib.hid h0
    clear h0 hz hok hsp hw hl hs
    go_enter Try.func9, Try.ntmps9
    go_wp2_with fail
    refine (CK.out _ (by go_grown)).mono ?_
    rintro e w1 ⟨rfl, hb1⟩
    have K1 := K0.below hb1 K0.lt
    have a0 : w1.cell? ⟨w.heap.size, 0, none⟩ = some (.int .i64 p) := K1.cell 0
    have a1 : w1.cell? ⟨w.heap.size, 1, none⟩ = some (.slice A n c) := K1.cell 1
    have q0 := K1.lt
    have hB1 := bvia (show Below w.heap.size w _ by go_grown) hb1
    have B1 := Lib.hid hB1
    have z1 := hB1.size
    clear hb1 K0 CK K1 hB1
    go_wp2_with fail
    refine (CT.out _ B1.out).mono ?_
    rintro e w2 ⟨A2, n2, c2, rfl, r2, l2, hb2⟩
    have R2 := Lib.hid (own_mono r2 z1)
    have B2 := Lib.hid (bvia B1.out hb2)
    clear r2 hb2 CT B1
    go_wp2
    go_ret2
    exact ⟨.inr ⟨H0.out, A2, n2, c2, rfl, R2.out, l2⟩, B2.out⟩
  · obtain ⟨er, her⟩ : ∃ er, er = ckS p s ws := ⟨_, rfl⟩
    rw [← her] at CK h0 ⊢
    have e1 : (er != 0) = true := by simpa using h0
    have H0 := Lib.hid h0
    clear her h0 hw hl hs
    go_enter Try.func9, Try.ntmps9
    go_wp2_with fail
    refine (CK.out _ (by go_grown)).mono ?_
    rintro e w1 ⟨rfl, hb1⟩
    have B1 := Lib.hid (bvia (show Below w.heap.size w _ by go_grown) hb1)
    clear hb1 K0 CK
    go_wp2
    go_ret2
    exact ⟨.inl ⟨H0.out, rfl⟩, B1.out⟩
theorem step_all (z : Pil) (x : Wk) (hx : x.word.size ≤ 16) : (z.step x).steps.length = z.steps.length + 1 ∧ (z.step x).marks.length = z.marks.length + 1 ∧ (z.step x).works.length ≤ z.works.length + 1 ∧ (z.step x).xs.length ≤ z.xs.length + 48 ∧ (z.step x).ps.length ≤ z.ps.length + 16 ∧ (z.step x).l.length = z.l.length := by
  unfold Pil.step
  split
  · exact ⟨by simp [Pil.note], by simp [Pil.note], Nat.le_succ _, Nat.le_add_right _ _, Nat.le_add_right _ _, rfl⟩
  split
  · exact ⟨by simp [Pil.note, Pil.stick, Pil.work], by simp [Pil.note, Pil.stick, Pil.work], by simp [Pil.note, Pil.stick, Pil.work], Nat.le_add_right _ _, by simp [Pil.note, Pil.stick, Pil.work], rfl⟩
  · obtain ⟨h1, h2, h3, h4, h5, h6, h7⟩ := Pil.letters_all (z.note x) (stepMid x) x.word.data.toList x.word.data.toList.length
    have hm : x.word.data.toList.length = x.word.size := str_len _
    refine ⟨?_, ?_, ?_, ?_, ?_, ?_⟩
    · show ((z.note x).letters _ _ _).steps.length = _
      rw [h3]; simp [Pil.note]
    · show ((z.note x).letters _ _ _).marks.length = _
      rw [h4]; simp [Pil.note]
    · show (((z.note x).letters _ _ _).works ++ _).length ≤ _
      rw [h2]; simp [Pil.note]
    · show ((z.note x).letters _ _ _).xs.length ≤ _
      refine Nat.le_trans h6 ?_
      show z.xs.length + 3 * _ ≤ _
      omega
    · show ((z.note x).letters _ _ _).ps.length ≤ _
      refine Nat.le_trans h7 ?_
      show z.ps.length + _ ≤ _
      omega
    · exact h5
def zRun (z : Pil) (l : List Wk) (k : Nat) : Pil := (l.take k).foldl Pil.step z
theorem zRun_succ (z : Pil) {l : List Wk} {k : Nat} {x : Wk} (h : l[k]? = some x) : zRun z l (k + 1) = (zRun z l k).step x := by
  unfold zRun; rw [List.take_add_one, h, List.foldl_append]; rfl
theorem zRun_all (z : Pil) {l : List Wk} (hv : ∀ x ∈ l, x.word.size ≤ 16) : ∀ k, k ≤ l.length → (zRun z l k).steps.length = z.steps.length + k ∧ (zRun z l k).marks.length = z.marks.length + k ∧ (zRun z l k).works.length ≤ z.works.length + k ∧ (zRun z l k).xs.length ≤ z.xs.length + 48 * k ∧ (zRun z l k).ps.length ≤ z.ps.length + 16 * k ∧ (zRun z l k).l.length = z.l.length
  | 0, _ => ⟨rfl, rfl, Nat.le_refl _, Nat.le_refl _, Nat.le_refl _, rfl⟩
  | k + 1, hk => by
    obtain ⟨h1, h2, h3, h4, h5, h6⟩ := zRun_all z hv k (by omega)
    obtain ⟨x, hx⟩ := get_of_lt (l := l) (k := k) (by omega)
    rw [zRun_succ z hx]
    obtain ⟨g1, g2, g3, g4, g5, g6⟩ := step_all (zRun z l k) x (hv x (mem_of_get hx))
    exact ⟨by omega, by omega, by omega, by omega, by omega, g6.trans h6⟩
theorem go_at {p s : Int} : ∀ {l : List Wk} {z : Pil}, goAll p s z l → ∀ (k : Nat) (x : Wk), l[k]? = some x → pilE p s (zRun z l k) x = 0
  | [], z, _, k, x, hx => by simp at hx
  | y :: l, z, h, 0, x, hx => by
    obtain rfl : y = x := by simpa using hx
    exact h.1
  | y :: l, z, h, k + 1, x, hx => go_at (l := l) (z := z.step y) h.2 k x (by simpa using hx)
theorem stAll_words {p s : Int} : ∀ (l : List Wk) (h : Int), (∀ x ∈ l, x.word.size ≤ 16) → ∀ y ∈ stAll p s h l, y.word.size ≤ 16
  | [], h, _, y, hy => by cases hy
  | x :: l, h, hv, y, hy => by
    have ho : (stepOf x).word.size ≤ 16 := by
      unfold stepOf
      split
      · exact Nat.zero_le _
      · exact hv x (List.mem_cons_self ..)
    have hv' := fun z hz => hv z (List.mem_cons_of_mem _ hz)
    cases hb : heldB h s x.at_ with
    | true =>
      rw [stAll_held hb] at hy
      rcases List.mem_cons.1 hy with rfl | hy
      · exact ho
      · exact stAll_words l _ hv' y hy
    | false =>
      rw [stAll_reach hb] at hy
      rcases List.mem_cons.1 hy with rfl | hy
      · exact Nat.zero_le _
      · rcases List.mem_cons.1 hy with rfl | hy
        · exact ho
        · exact stAll_words l _ hv' y hy
theorem stAll_len {p s : Int} : ∀ (l : List Wk) (h : Int), (stAll p s h l).length ≤ 2 * l.length
  | [], h => Nat.le_refl _
  | x :: l, h => by
    cases hb : heldB h s x.at_ with
    | true =>
      rw [stAll_held hb, List.length_cons, List.length_cons]
      have := stAll_len (p := p) (s := s) l h
      omega
    | false =>
      rw [stAll_reach hb, List.length_cons, List.length_cons, List.length_cons]
      have := stAll_len (p := p) (s := s) l (bestN s (x :: l) (p - s + 1).toNat : Nat)
      omega
set_option maxRecDepth 100000 in
set_option maxHeartbeats 4000000 in
theorem makesP (p : Int) (A : Option Addr) (n c : Nat) (b : Int) (ws : List Wk) (w : World) (hn : n ≤ 9223372036854775807) (hw : RdW w w.heap.size A ws) (hl : ws.length = n) (hs : ∀ x ∈ ws, x.word.size ≤ 9223372036854775807) :
    Calls Try.prog 3 #[.agg #[.int .i64 p, .slice A n c], .int .i64 b] w fun e w' => e = .returned (.bool true) ∧ Below w.heap.size w w' := by
  have CS := Lib.hid (fun (W : World) (hb : Below w.heap.size w W) => stepsC p b A n c ws W hn (hw.up hb) hl hs)
  have CE := Lib.hid (fun (W : World) (hb : Below w.heap.size w W) (D : Option Addr) (k d : Nat) (hk : k ≤ 1000) (hr : RdW W W.heap.size D ws) (hkl : ws.length = k) => same04 p p D A k n d c ws ws W (by omega) hn hr (hw.up hb) hkl hl)
  have K0 : Has (w.alloc (.cells #[.int .i64 p, .slice A n c] 24)) w.heap.size 24 [.int .i64 p, .slice A n c] := Has.new rfl
  have HL := Lib.hid hl
  have HCK : Hid (ckS p b ws = 0 → SOk p ws ∧ (2 ≤ b ∧ b ≤ 8 ∧ b ≤ p)) := fun h0 => by
    unfold ckS at h0
    by_cases e : schk p ws = 0
    · rw [if_neg (by simpa using e)] at h0
      cases hb : spB p b with
      | true => exact ⟨schk_zero e, of_decide_eq_true hb⟩
      | false => rw [hb] at h0; cases h0
    · rw [if_pos e] at h0; exact absurd h0 e
  clear hw hl hs
  go_enter Try.func3, Try.ntmps3
  go_wp2_with fail
  refine (CS.out _ (by go_grown)).mono ?_
  rintro e w1 ⟨hres, hb1⟩
  have B1 := Lib.hid (bvia (show Below w.heap.size w _ by go_grown) hb1)
  have HB := Lib.hid (K0.below hb1 K0.lt)
  rcases hres with ⟨h0, rfl⟩ | ⟨h0, A2, n2, c2, rfl, r2, l2⟩
  · have e1 : (ckS p b ws != 0) = true := by simpa using h0
    generalize ckS p b ws = er at *
    clear h0 K0 hb1 CS
    go_wp2_with fail
    refine (awakeP _).mono ?_
    rintro e w2 ⟨rfl, hb2⟩
    go_wp2
    go_ret
    exact ⟨rfl, bvia B1.out hb2⟩
  · obtain ⟨hok, hsp⟩ := HCK.out h0
    have R2 := Lib.hid (own_rdW r2)
    have L2 := Lib.hid l2
    have a0 : w1.cell? ⟨w.heap.size, 0, none⟩ = some (.int .i64 p) := HB.out.cell 0
    have a1 : w1.cell? ⟨w.heap.size, 1, none⟩ = some (.slice A n c) := HB.out.cell 1
    have q0 := HB.out.lt
    by_cases h60 : 60 < n
    · have j60 : (60 : Int) < (n : Int) := by omega
      clear h0 K0 hb1 CS r2 l2 hok hsp
      go_wp2_with fail
      refine (awakeP _).mono ?_
      rintro e w2 ⟨rfl, hb2⟩
      go_wp2
      go_ret
      exact ⟨rfl, bvia B1.out hb2⟩
    · have j60 : decide ((60 : Int) < (n : Int)) = false := decide_eq_false (by omega)
      have hcs : csE p b [] = 0 := by
        unfold csE
        rw [if_neg (by rw [show spB p b = true from decide_eq_true hsp]; have := hok.ge; have := hok.le; rintro (c | c | c); · omega
                       · omega
                       · cases c)]
        rfl
      have hp : 2 ≤ p ∧ p ≤ 24 := ⟨hok.ge, hok.le⟩
      have HG := Lib.hid (st_good hp hsp ws (pil0 (lineN (2 * p.toNat))) (.inl rfl) (fun x hx => ⟨hok.good x hx, hok.short x hx, hok.form x hx⟩) (by show 0 + ws.length ≤ 400; rw [HL.out]; omega))
      have HGO := Lib.hid (go_at HG.out.1)
      have HWD := Lib.hid (stAll_words (p := p) (s := b) ws (-1) hok.short)
      have hst2 : n2 ≤ 120 := by rw [← l2]; have := stAll_len (p := p) (s := b) ws (-1); rw [HL.out] at this; omega
      have HFW : Hid ((zRun (pil0 (lineN (2 * p.toNat))) (stAll p b (-1) ws) n2).works = ws) := by
        show _ = _
        unfold zRun
        rw [← l2, List.take_length]
        exact HG.out.2
      have HZ := Lib.hid (zRun_all (pil0 (lineN (2 * p.toNat))) HWD.out)
      have CN := Lib.hid (fun W => newC p b W hcs)
      obtain ⟨sl, hsl⟩ : ∃ sl, sl = stAll p b (-1) ws := ⟨_, rfl⟩
      have HGO2 : Hid (∀ (k : Nat) (x : Wk), sl[k]? = some x → pilE p b (zRun (pil0 (lineN (2 * p.toNat))) sl k) x = 0) := by
        show ∀ (k : Nat) (x : Wk), sl[k]? = some x → pilE p b (zRun (pil0 (lineN (2 * p.toNat))) sl k) x = 0
        rw [hsl]; exact HGO.out
      rw [← hsl] at R2 L2 HWD HFW HZ
      obtain ⟨z0, hz0⟩ : ∃ z0, z0 = pil0 (lineN (2 * p.toNat)) := ⟨_, rfl⟩
      have HZ0 : Hid (z0.l.length = 2 * p.toNat ∧ z0.steps.length = 0 ∧ z0.marks.length = 0 ∧ z0.works.length = 0 ∧ z0.xs.length = 0 ∧ z0.ps.length = 0) := by rw [hz0]; exact ⟨lineN_len _, rfl, rfl, rfl, rfl, rfl⟩
      rw [← hz0] at HGO2 HFW HZ CN
      clear h0 K0 hb1 CS r2 l2 hok hsp hcs HG HGO hsl hz0 HCK
      go_wp2_with fail
      refine (CN.out _).mono ?_
      rintro e w3 ⟨⟨g, S3, M3, V3, L3, X3, P3, rfl, h3⟩, hb3⟩
      have H3 := Lib.hid h3
      have B3 := Lib.hid hb3
      clear h3 hb3 CN a0 a1 q0
      go_wp2
      go_loopw [8] (fun i wr => ∃ (k : Nat) (S M V L X P : Value), k ≤ n2 ∧ i = .int .i64 (k : Int) ∧ Hid (PilH wr w1.heap.size g p b (zRun z0 sl k) S M V L X P) ∧ Hid (Below w1.heap.size w1 wr)) (fun i _ => n2 - (intOf i).toNat)
      case atStart => exact ⟨0, S3, M3, V3, L3, X3, P3, Nat.zero_le _, rfl, H3, B3⟩
      case round =>
        clear H3 B3
        obtain ⟨k, S, M, V, L, X, P, hk, rfl, HP, HBW⟩ := hrel
        obtain ⟨wo, rfl⟩ : ∃ wo : World, wo = wr := ⟨_, rfl⟩
        obtain ⟨zl, zs, zm, zw, zx, zp⟩ := HZ0.out
        obtain ⟨y1, y2, y3, y4, y5, y6⟩ := HZ.out k (by rw [L2.out]; exact hk)
        by_cases hlt : k < n2
        · have jk : (k : Int) < (n2 : Int) := by omega
          obtain ⟨x, hx⟩ := get_of_lt (l := sl) (k := k) (by rw [L2.out]; exact hlt)
          obtain ⟨be, o, hA, hbe, c0, c1, c2'⟩ := (R2.out.up HBW.out) k x hx
          subst hA
          have hxw := HWD.out x (mem_of_get hx)
          have CD := Lib.hid (doC w1.heap.size g p b (zRun z0 sl k) S M V L X P x wo HP.out (by omega) (by omega) (by omega) (by omega) (by omega) (by omega) (by omega) (HGO2.out k x hx))
          have HS := Lib.hid (zRun_succ z0 hx)
          clear hx y1 y2 y3 y4 y5 y6
          go_wp2_with fail
          refine CD.out.mono ?_
          rintro e w4 ⟨rfl, ⟨S4, M4, V4, L4, X4, P4, h4, _⟩, hb4⟩
          have H4 := Lib.hid h4
          have B4 := Lib.hid (HBW.out.trans hb4)
          clear h4 hb4 CD HP HBW c0 c1 c2'
          go_wp2
          go_roundw
          case rel => exact ⟨k + 1, S4, M4, V4, L4, X4, P4, by omega, by go_num, Lib.hid (by rw [HS.out]; exact H4.out), B4⟩
          case measure => first | (simp [intOf]; done) | (simp [intOf]; omega)
        · obtain rfl : k = n2 := by omega
          have jk : ¬ (k : Int) < (k : Int) := by omega
          have hwl : (zRun z0 sl k).works.length ≤ 1000 := by omega
          have CSh := Lib.hid (fun (W : World) (hP : PilH W w1.heap.size g p b (zRun z0 sl k) S M V L X P) => sheetC w1.heap.size g p b (zRun z0 sl k) S M V L X P W hP (by omega) hwl)
          have CSh2 : Hid (∀ W, PilH W w1.heap.size g p b (zRun z0 sl k) S M V L X P → Calls Try.prog 14 #[.pointer (some ⟨g, 0, none⟩)] W fun e w' => ∃ A n c, e = .returned (.agg #[.int .i64 p, .slice A n c]) ∧ RdW w' w'.heap.size A ws ∧ ws.length = n ∧ n ≤ 1000 ∧ Below W.heap.size W w') := by
            have := CSh.out
            rw [HFW.out] at this
            exact this
          have HBo := Lib.hid (HB.out.below HBW.out HB.out.lt)
          have a0 : wo.cell? ⟨w.heap.size, 0, none⟩ = some (.int .i64 p) := HBo.out.cell 0
          have a1 : wo.cell? ⟨w.heap.size, 1, none⟩ = some (.slice A n c) := HBo.out.cell 1
          have q0 := HBo.out.lt
          have B9 := Lib.hid (bvia B1.out HBW.out)
          have HDN := Lib.hid HBo.out.drew
          clear CSh HFW HBo HZ HGO2 HWD y1 y2 y3 y4 y5 y6
          go_wp2
          go_region_held3 (fun W' => W'.cell? ⟨w.heap.size, 0, none⟩ = some (.int .i64 p) ∧ W'.cell? ⟨w.heap.size, 1, none⟩ = some (.slice A n c)) (first | exact ⟨by assumption, by assumption⟩ | exact ⟨HDN.out.cell 0, HDN.out.cell 1⟩ | go_keep) (first
            | (go_simp; go_at_call 14; refine (CSh2.out _ (RowsH.drewN HP.out _)).mono ?_; rintro e w5 ⟨A5, n5, c5, rfl, r5, l5, hn5, hb5⟩; have HK5 := HDN.out.below hb5 HDN.out.lt; have m0 : w5.cell? ⟨w.heap.size, 0, none⟩ = some (.int .i64 p) := HK5.cell 0; have m1 : w5.cell? ⟨w.heap.size, 1, none⟩ = some (.slice A n c) := HK5.cell 1; have B5 := (below_drewN B9.out 1).trans (hb5.mono (Nat.le_trans B9.out.size (Nat.le_refl _))))
            | (go_simp; go_at_call 13; refine (CE.out _ B5 A5 n5 c5 hn5 r5 l5).mono ?_; rintro e w6 ⟨rfl, hb6⟩; have HK6 := HK5.below hb6 HK5.lt; have m2 : w6.cell? ⟨w.heap.size, 0, none⟩ = some (.int .i64 p) := HK6.cell 0; have m3 : w6.cell? ⟨w.heap.size, 1, none⟩ = some (.slice A n c) := HK6.cell 1; have B6 := bvia B5 hb6; rw [beq_self_eq_true, beq_self_eq_true, Bool.and_self])
            | (go_simp; go_at_call 10; refine (awakeP _).mono ?_; rintro e w7 ⟨rfl, hb7⟩; have HK7 := HK6.below hb7 HK6.lt; have m4 : w7.cell? ⟨w.heap.size, 0, none⟩ = some (.int .i64 p) := HK7.cell 0; have m5 : w7.cell? ⟨w.heap.size, 1, none⟩ = some (.slice A n c) := HK7.cell 1; have B7 := bvia B6 hb7)
            | fail)
          go_wp2
          go_ret
          exact ⟨rfl, B7⟩
end Go.Proofs.Ytaenafcecfdffaa
/-
  Contract of chapter 16: SameCloth of two cloths that are equal.
-/
namespace Go.Proofs.Ytaenafcecfdffaa
open Go.RowKit
theorem eqCr (a b c d : Int) (w : World) : (Op.equalIn 10000 47 (.agg #[.int .i64 a, .int .i64 b, .int .i64 c, .int .i64 d]) (.agg #[.int .i64 a, .int .i64 b, .int .i64 c, .int .i64 d])).run Try.prog w = .ok true w := by
  have u3 := Try.underlying3
  have a3 := Try.isAgg3
  have z3 := Try.sizeOf3
  have hS : Try.prog.underlying 47 = some (.struct (Try.prog.fieldsOf 47)) := by kernel_rfl
  have hp : Try.prog.stoodInHeld 47 = false := by kernel_rfl
  rw [show (10000 : Nat) = 9999 + 1 from rfl, run_equalIn_agg w 9999 47 _ _ hS hp]
  simp only [Program.fieldsOf, Try.underlying47]
  go_simp
theorem eqPn (a b c d : Int) (w : World) : (Op.equalIn 10000 56 (.agg #[.int .i64 a, .int .i64 b, .int .i64 c, .int .i64 d]) (.agg #[.int .i64 a, .int .i64 b, .int .i64 c, .int .i64 d])).run Try.prog w = .ok true w := by
  have u3 := Try.underlying3
  have a3 := Try.isAgg3
  have z3 := Try.sizeOf3
  have hS : Try.prog.underlying 56 = some (.struct (Try.prog.fieldsOf 56)) := by kernel_rfl
  have hp : Try.prog.stoodInHeld 56 = false := by kernel_rfl
  rw [show (10000 : Nat) = 9999 + 1 from rfl, run_equalIn_agg w 9999 56 _ _ hS hp]
  simp only [Program.fieldsOf, Try.underlying56]
  go_simp
set_option maxRecDepth 100000 in
set_option maxHeartbeats 4000000 in
theorem sameCl (t : Int) (A B A' B' : Option Addr) (n c m d c' d' : Nat) (xs ps : List Q4) (w : World) (hn : n ≤ 9223372036854775807) (hm : m ≤ 9223372036854775807) (hx : RdQ w w.heap.size A xs) (hx2 : RdQ w w.heap.size A' xs) (hp : RdQ w w.heap.size B ps) (hp2 : RdQ w w.heap.size B' ps)
    (hl : xs.length = n) (hl' : ps.length = m) :
    Calls Try.prog 21 #[vCloth t A n c B m d, vCloth t A' n c' B' m d'] w fun e w' => e = .returned (.bool true) ∧ Below w.heap.size w w' := by
  have B1 : Below w.heap.size w ((w.alloc (.cells #[.int .i64 t, .slice A n c, .slice B m d] 43)).alloc (.cells #[.int .i64 t, .slice A' n c', .slice B' m d'] 43)) := by go_grown
  have HX := Lib.hid (hx.up B1); have HX2 := Lib.hid (hx2.up B1); have HP := Lib.hid (hp.up B1); have HP2 := Lib.hid (hp2.up B1)
  have HL := Lib.hid hl; have HL2 := Lib.hid hl'
  have HA := Lib.hid (show Has ((w.alloc (.cells #[.int .i64 t, .slice A n c, .slice B m d] 43)).alloc (.cells #[.int .i64 t, .slice A' n c', .slice B' m d'] 43)) w.heap.size 43 [.int .i64 t, .slice A n c, .slice B m d] from (Has.new rfl).alloc _)
  have HB := Lib.hid (show Has ((w.alloc (.cells #[.int .i64 t, .slice A n c, .slice B m d] 43)).alloc (.cells #[.int .i64 t, .slice A' n c', .slice B' m d'] 43)) (w.heap.size + 1) 43 [.int .i64 t, .slice A' n c', .slice B' m d'] from Has.new2 rfl)
  clear hx hx2 hp hp2 hl hl'
  go_enter Try.func21, Try.ntmps21
  go_wp2
  obtain ⟨g', hg'⟩ : ∃ g', g' = w.heap.size + 1 := ⟨_, rfl⟩
  obtain ⟨g, hg⟩ : ∃ g, g = w.heap.size := ⟨_, rfl⟩
  generalize hW : ((w.alloc (.cells #[.int .i64 t, .slice A n c, .slice B m d] 43)).alloc (.cells #[.int .i64 t, .slice A' n c', .slice B' m d'] 43)) = w2 at *
  rw [← hg'] at HB ⊢
  rw [← hg] at HA ⊢
  clear hW hg hg'
  go_loopw [5] (fun i wr => ∃ j : Nat, j ≤ n ∧ i = .int .i64 (j : Int) ∧ Below w2.heap.size w2 wr) (fun i _ => n - (intOf i).toNat)
  case atStart => exact ⟨0, Nat.zero_le _, rfl, Below.refl _ _⟩
  case round =>
    obtain ⟨j, hj, rfl, hb⟩ := hrel
    obtain ⟨wo, rfl⟩ : ∃ wo : World, wo = wr := ⟨_, rfl⟩
    have hz := hb.size
    have a1 := (hb.cell (p := ⟨g, 1, none⟩) HA.out.lt).trans (HA.out.cell 1)
    have b1 := (hb.cell (p := ⟨g', 1, none⟩) HB.out.lt).trans (HB.out.cell 1)
    have q1 : g < wo.heap.size := Nat.lt_of_lt_of_le HA.out.lt hz
    have q2 : g' < wo.heap.size := Nat.lt_of_lt_of_le HB.out.lt hz
    replace a1 : wo.cell? ⟨g, 1, none⟩ = some (.slice A n c) := a1
    replace b1 : wo.cell? ⟨g', 1, none⟩ = some (.slice A' n c') := b1
    by_cases hlt : j < n
    · obtain ⟨x, hx⟩ := get_of_lt (l := xs) (k := j) (by rw [HL.out]; exact hlt)
      obtain ⟨bu, ou, rfl, hbu, u0, u1, u2, u3⟩ := (HX.out.up hb) _ x hx
      obtain ⟨bv, ov, rfl, hbv, v0, v1, v2, v3⟩ := (HX2.out.up hb) _ x hx
      have jn : (j : Int) < (n : Int) := by omega
      have EQ := fun W => eqCr x.a x.b x.c x.d W
      clear hx
      go_wp2
      have hxc := fun (x : Ext wo) => x.cell
      refine wp_region_ext (by kernel_rfl) (by kernel_rfl) ?_
      repeat (go_big_quiet_step (fail))
      refine wpQuiet_nil ?_
      intro w6 hw'
      have hb6 := ext_below hw'; clear hw' hxc
      have B6 := hb.trans (hb6.mono hz)
      clear hb6
      go_wp2
      go_roundw
      case rel => exact ⟨j + 1, by omega, by go_num, B6⟩
      case measure => first | (simp [intOf]; done) | (simp [intOf]; omega)
    · obtain rfl : n = j := by omega
      go_wp2
      replace HA := Lib.hid (HA.out.below hb HA.out.lt)
      replace HB := Lib.hid (HB.out.below hb HB.out.lt)
      replace HP := Lib.hid (HP.out.up hb)
      replace HP2 := Lib.hid (HP2.out.up hb)
      have B3 := bvia B1 hb
      clear hb HX HX2 B1 a1 b1 q1 q2 hz
      obtain ⟨w3, rfl⟩ : ∃ w3 : World, w3 = wo := ⟨_, rfl⟩
      go_loopw [6] (fun i wr => ∃ j : Nat, j ≤ m ∧ i = .int .i64 (j : Int) ∧ Below w3.heap.size w3 wr) (fun i _ => m - (intOf i).toNat)
      case atStart => exact ⟨0, Nat.zero_le _, rfl, Below.refl _ _⟩
      case round =>
        obtain ⟨j, hj, rfl, hb⟩ := hrel
        obtain ⟨wo, rfl⟩ : ∃ wo : World, wo = wr := ⟨_, rfl⟩
        have hz := hb.size
        have a1 := (hb.cell (p := ⟨g, 2, none⟩) HA.out.lt).trans (HA.out.cell 2)
        have b1 := (hb.cell (p := ⟨g', 2, none⟩) HB.out.lt).trans (HB.out.cell 2)
        have q1 : g < wo.heap.size := Nat.lt_of_lt_of_le HA.out.lt hz
        have q2 : g' < wo.heap.size := Nat.lt_of_lt_of_le HB.out.lt hz
        replace a1 : wo.cell? ⟨g, 2, none⟩ = some (.slice B m d) := a1
        replace b1 : wo.cell? ⟨g', 2, none⟩ = some (.slice B' m d') := b1
        by_cases hlt : j < m
        · obtain ⟨x, hx⟩ := get_of_lt (l := ps) (k := j) (by rw [HL2.out]; exact hlt)
          obtain ⟨bu, ou, rfl, hbu, u0, u1, u2, u3⟩ := (HP.out.up hb) _ x hx
          obtain ⟨bv, ov, rfl, hbv, v0, v1, v2, v3⟩ := (HP2.out.up hb) _ x hx
          have jn : (j : Int) < (m : Int) := by omega
          have EQ := fun W => eqPn x.a x.b x.c x.d W
          clear hx
          go_wp2
          have hxc := fun (x : Ext wo) => x.cell
          refine wp_region_ext (by kernel_rfl) (by kernel_rfl) ?_
          repeat (go_big_quiet_step (fail))
          refine wpQuiet_nil ?_
          intro w6 hw'
          have hb6 := ext_below hw'; clear hw' hxc
          have B6 := hb.trans (hb6.mono hz)
          clear hb6
          go_wp2
          go_roundw
          case rel => exact ⟨j + 1, by omega, by go_num, B6⟩
          case measure => first | (simp [intOf]; done) | (simp [intOf]; omega)
        · obtain rfl : m = j := by omega
          go_wp2
          go_ret
          exact ⟨rfl, bvia B3 hb⟩
end Go.Proofs.Ytaenafcecfdffaa
