/-
  Contract of chapter 16: SameCloth of two cloths that are equal.
-/
import Derived.Test.YtaenafcecfdffaaVA2
import Derived.Test.YtaenafcecfdffaaVA9
import Derived.Test.YtaenafcecfdffaaVA11
import Derived.Test.YtaenafcecfdffaaVA15
namespace Go.Proofs.Ytaenafcecfdffaa
open Go.RowKit
theorem eqCr (a b c d : Int) (w : World) : (Op.equalIn 10000 47 (.agg #[.int .i64 a, .int .i64 b, .int .i64 c, .int .i64 d]) (.agg #[.int .i64 a, .int .i64 b, .int .i64 c, .int .i64 d])).run Try.prog w = .ok true w := by
  have u3 := Try.underlying3
  have a3 := Try.isAgg3
  have z3 := Try.sizeOf3
  have hS : Try.prog.underlying 47 = some (.struct (Try.prog.fieldsOf 47)) := by kernel_rfl
  have hp : Try.prog.stoodInHeld 47 = false := by kernel_rfl
  rw [show (10000 : Nat) = 9999 + 1 from rfl, run_equalIn_agg w 9999 47 _ _ hS hp]
  simp only [Program.fieldsOf, Try.underlying47]
  go_simp
theorem eqPn (a b c d : Int) (w : World) : (Op.equalIn 10000 56 (.agg #[.int .i64 a, .int .i64 b, .int .i64 c, .int .i64 d]) (.agg #[.int .i64 a, .int .i64 b, .int .i64 c, .int .i64 d])).run Try.prog w = .ok true w := by
  have u3 := Try.underlying3
  have a3 := Try.isAgg3
  have z3 := Try.sizeOf3
  have hS : Try.prog.underlying 56 = some (.struct (Try.prog.fieldsOf 56)) := by kernel_rfl
  have hp : Try.prog.stoodInHeld 56 = false := by kernel_rfl
  rw [show (10000 : Nat) = 9999 + 1 from rfl, run_equalIn_agg w 9999 56 _ _ hS hp]
  simp only [Program.fieldsOf, Try.underlying56]
  go_simp
set_option maxRecDepth 100000 in
set_option maxHeartbeats 4000000 in
theorem sameCl (t : Int) (A B A' B' : Option Addr) (n c m d c' d' : Nat) (xs ps : List Q4) (w : World) (hn : n ≤ 9223372036854775807) (hm : m ≤ 9223372036854775807) (hx : RdQ w w.heap.size A xs) (hx2 : RdQ w w.heap.size A' xs) (hp : RdQ w w.heap.size B ps) (hp2 : RdQ w w.heap.size B' ps)
    (hl : xs.length = n) (hl' : ps.length = m) :
    Calls Try.prog 21 #[vCloth t A n c B m d, vCloth t A' n c' B' m d'] w fun e w' => e = .returned (.bool true) ∧ Below w.heap.size w w' := by
  have B1 : Below w.heap.size w ((w.alloc (.cells #[.int .i64 t, .slice A n c, .slice B m d] 43)).alloc (.cells #[.int .i64 t, .slice A' n c', .slice B' m d'] 43)) := by go_grown
  have HX := Lib.hid (hx.up B1); have HX2 := Lib.hid (hx2.up B1); have HP := Lib.hid (hp.up B1); have HP2 := Lib.hid (hp2.up B1)
  have HL := Lib.hid hl; have HL2 := Lib.hid hl'
  have HA := Lib.hid (show Has ((w.alloc (.cells #[.int .i64 t, .slice A n c, .slice B m d] 43)).alloc (.cells #[.int .i64 t, .slice A' n c', .slice B' m d'] 43)) w.heap.size 43 [.int .i64 t, .slice A n c, .slice B m d] from (Has.new rfl).alloc _)
  have HB := Lib.hid (show Has ((w.alloc (.cells #[.int .i64 t, .slice A n c, .slice B m d] 43)).alloc (.cells #[.int .i64 t, .slice A' n c', .slice B' m d'] 43)) (w.heap.size + 1) 43 [.int .i64 t, .slice A' n c', .slice B' m d'] from Has.new2 rfl)
  clear hx hx2 hp hp2 hl hl'
  go_enter Try.func21, Try.ntmps21
  go_wp2
  obtain ⟨g', hg'⟩ : ∃ g', g' = w.heap.size + 1 := ⟨_, rfl⟩
  obtain ⟨g, hg⟩ : ∃ g, g = w.heap.size := ⟨_, rfl⟩
  generalize hW : ((w.alloc (.cells #[.int .i64 t, .slice A n c, .slice B m d] 43)).alloc (.cells #[.int .i64 t, .slice A' n c', .slice B' m d'] 43)) = w2 at *
  rw [← hg'] at HB ⊢
  rw [← hg] at HA ⊢
  clear hW hg hg'
  go_loopw [5] (fun i wr => ∃ j : Nat, j ≤ n ∧ i = .int .i64 (j : Int) ∧ Below w2.heap.size w2 wr) (fun i _ => n - (intOf i).toNat)
  case atStart => exact ⟨0, Nat.zero_le _, rfl, Below.refl _ _⟩
  case round =>
    obtain ⟨j, hj, rfl, hb⟩ := hrel
    obtain ⟨wo, rfl⟩ : ∃ wo : World, wo = wr := ⟨_, rfl⟩
    have hz := hb.size
    have a1 := (hb.cell (p := ⟨g, 1, none⟩) HA.out.lt).trans (HA.out.cell 1)
    have b1 := (hb.cell (p := ⟨g', 1, none⟩) HB.out.lt).trans (HB.out.cell 1)
    have q1 : g < wo.heap.size := Nat.lt_of_lt_of_le HA.out.lt hz
    have q2 : g' < wo.heap.size := Nat.lt_of_lt_of_le HB.out.lt hz
    replace a1 : wo.cell? ⟨g, 1, none⟩ = some (.slice A n c) := a1
    replace b1 : wo.cell? ⟨g', 1, none⟩ = some (.slice A' n c') := b1
    by_cases hlt : j < n
    · obtain ⟨x, hx⟩ := get_of_lt (l := xs) (k := j) (by rw [HL.out]; exact hlt)
      obtain ⟨bu, ou, rfl, hbu, u0, u1, u2, u3⟩ := (HX.out.up hb) _ x hx
      obtain ⟨bv, ov, rfl, hbv, v0, v1, v2, v3⟩ := (HX2.out.up hb) _ x hx
      have jn : (j : Int) < (n : Int) := by omega
      have EQ := fun W => eqCr x.a x.b x.c x.d W
      clear hx
      go_wp2
      have hxc := fun (x : Ext wo) => x.cell
      refine wp_region_ext (by kernel_rfl) (by kernel_rfl) ?_
      repeat (go_big_quiet_step (fail))
      refine wpQuiet_nil ?_
      intro w6 hw'
      have hb6 := ext_below hw'; clear hw' hxc
      have B6 := hb.trans (hb6.mono hz)
      clear hb6
      go_wp2
      go_roundw
      case rel => exact ⟨j + 1, by omega, by go_num, B6⟩
      case measure => first | (simp [intOf]; done) | (simp [intOf]; omega)
    · obtain rfl : n = j := by omega
      go_wp2
      replace HA := Lib.hid (HA.out.below hb HA.out.lt)
      replace HB := Lib.hid (HB.out.below hb HB.out.lt)
      replace HP := Lib.hid (HP.out.up hb)
      replace HP2 := Lib.hid (HP2.out.up hb)
      have B3 := bvia B1 hb
      clear hb HX HX2 B1 a1 b1 q1 q2 hz
      obtain ⟨w3, rfl⟩ : ∃ w3 : World, w3 = wo := ⟨_, rfl⟩
      go_loopw [6] (fun i wr => ∃ j : Nat, j ≤ m ∧ i = .int .i64 (j : Int) ∧ Below w3.heap.size w3 wr) (fun i _ => m - (intOf i).toNat)
      case atStart => exact ⟨0, Nat.zero_le _, rfl, Below.refl _ _⟩
      case round =>
        obtain ⟨j, hj, rfl, hb⟩ := hrel
        obtain ⟨wo, rfl⟩ : ∃ wo : World, wo = wr := ⟨_, rfl⟩
        have hz := hb.size
        have a1 := (hb.cell (p := ⟨g, 2, none⟩) HA.out.lt).trans (HA.out.cell 2)
        have b1 := (hb.cell (p := ⟨g', 2, none⟩) HB.out.lt).trans (HB.out.cell 2)
        have q1 : g < wo.heap.size := Nat.lt_of_lt_of_le HA.out.lt hz
        have q2 : g' < wo.heap.size := Nat.lt_of_lt_of_le HB.out.lt hz
        replace a1 : wo.cell? ⟨g, 2, none⟩ = some (.slice B m d) := a1
        replace b1 : wo.cell? ⟨g', 2, none⟩ = some (.slice B' m d') := b1
        by_cases hlt : j < m
        · obtain ⟨x, hx⟩ := get_of_lt (l := ps) (k := j) (by rw [HL2.out]; exact hlt)
          obtain ⟨bu, ou, rfl, hbu, u0, u1, u2, u3⟩ := (HP.out.up hb) _ x hx
          obtain ⟨bv, ov, rfl, hbv, v0, v1, v2, v3⟩ := (HP2.out.up hb) _ x hx
          have jn : (j : Int) < (m : Int) := by omega
          have EQ := fun W => eqPn x.a x.b x.c x.d W
          clear hx
          go_wp2
          have hxc := fun (x : Ext wo) => x.cell
          refine wp_region_ext (by kernel_rfl) (by kernel_rfl) ?_
          repeat (go_big_quiet_step (fail))
          refine wpQuiet_nil ?_
          intro w6 hw'
          have hb6 := ext_below hw'; clear hw' hxc
          have B6 := hb.trans (hb6.mono hz)
          clear hb6
          go_wp2
          go_roundw
          case rel => exact ⟨j + 1, by omega, by go_num, B6⟩
          case measure => first | (simp [intOf]; done) | (simp [intOf]; omega)
        · obtain rfl : m = j := by omega
          go_wp2
          go_ret
          exact ⟨rfl, bvia B3 hb⟩
end Go.Proofs.Ytaenafcecfdffaa
/-
  Walk of the law PillowKnown: it returns true. Before it: Pull of a pin that is not there, Back of a pillow on which nothing was done.
-/
namespace Go.Proofs.Ytaenafcecfdffaa
open Go.RowKit
set_option maxRecDepth 100000 in
set_option maxHeartbeats 2000000 in
theorem pullK (B g : Nat) (p s : Int) (z : Pil) (S M V L X P : Value) (k : Nat) (x : Pn) (W : World) (h : PilH W B g p s z S M V L X P) (hp : 0 < p) (hx : z.ps[k]? = some x) :
    Calls Try.prog 22 #[.pointer (some ⟨g, 0, none⟩), .int .i64 (k : Int)] W fun e w' => e = .returned (.int .i64 (pullE x)) ∧ PilH w' B g p s (z.pulled k x) S M V L X P ∧ Below B W w' ∧ KeepB (fun r => P.ownBlock = some r) W w' := by
  have o5 : W.ownsRow B 91 6 P z.ps.length (pnsC z.ps) := h.o 5 _ rfl
  obtain ⟨PA, pc, rfl⟩ := own_form o5
  have hk := lt_of_get hx
  obtain ⟨g1, g2⟩ := pnsC_get hx
  obtain ⟨bp, rfl, hbp, hbp2, y4⟩ := own_at o5 g1
  obtain ⟨bp', e', _, _, y5⟩ := own_at o5 g2
  injection e' with e'
  injection e' with e'
  subst e'
  have a8 : W.cell? ⟨g, 8, none⟩ = some (.slice (some ⟨bp, 0, none⟩) z.ps.length pc) := RowsH.cell h 8
  have CM := Lib.hid (madeC g p W hp (RowsH.cell h 0))
  have hg := h.c.lt
  have fz := o5.frozenAt (k * 6 + 5)
  have H := Lib.hid h
  have HX := Lib.hid hx
  have j1 : (k : Int) < (z.ps.length : Int) := by omega
  have d1 : decide ((k : Int) < 0) = false := decide_eq_false (by omega)
  have d2 : decide ((z.ps.length : Int) ≤ (k : Int)) = false := decide_eq_false (by omega)
  have z4 : 0 + k * 6 + 4 = k * 6 + 4 := by omega
  obtain ⟨q, sw, ot⟩ := x
  simp only [] at y4 y5
  clear h o5 hx g1 g2
  cases sw with
  | true =>
    have HQ : Hid (z.pulled k ⟨q, true, ot⟩ = z) := if_neg (by show ¬ (9 : Int) = 0; decide)
    go_enter Try.func22, Try.ntmps22
    go_wp2_with fail
    refine CM.out.mono ?_
    rintro e w1 ⟨rfl, rfl⟩
    go_wp2
    go_ret
    rw [HQ.out]
    exact ⟨rfl, H.out, Below.refl _ _, KeepB.refl _ _⟩
  | false =>
    cases ot with
    | true =>
      have HQ : Hid (z.pulled k ⟨q, false, true⟩ = z) := if_neg (by show ¬ (8 : Int) = 0; decide)
      go_enter Try.func22, Try.ntmps22
      go_wp2_with fail
      refine CM.out.mono ?_
      rintro e w1 ⟨rfl, rfl⟩
      go_wp2
      go_ret
      rw [HQ.out]
      exact ⟨rfl, H.out, Below.refl _ _, KeepB.refl _ _⟩
    | false =>
      go_enter Try.func22, Try.ntmps22
      go_wp2_with fail
      refine CM.out.mono ?_
      rintro e w1 ⟨rfl, rfl⟩
      go_wp2
      go_ret
      refine ⟨rfl, ?_, ?_, KeepB.set (S := fun r => some bp = some r) W rfl _ _⟩
      · show RowsH _ _ _ _ _ _
        rw [show z.pulled k ⟨q, false, false⟩ = z.pull k from if_pos rfl, rows_pull z k _ HX.out]
        have h6 := RowsH.stored H.out (i := 5) rfl (b := bp) (cap := pc) rfl (k * 6 + 5) (.bool true)
        have e : (z.pull k).hands = z.hands := by unfold Pil.pull; rw [HX.out]
        rw [e]
        exact h6
      · exact (Below.refl _ _).setCell (p := ⟨bp, k * 6 + 5, none⟩) hbp _
set_option maxRecDepth 100000 in
set_option maxHeartbeats 2000000 in
theorem pullN (B g : Nat) (p s : Int) (z : Pil) (S M V L X P : Value) (k : Nat) (W : World) (h : PilH W B g p s z S M V L X P) (hp : 0 < p) (hk : z.ps.length ≤ k) (hk2 : k ≤ 1000000) :
    Calls Try.prog 22 #[.pointer (some ⟨g, 0, none⟩), .int .i64 (k : Int)] W fun e w' => e = .returned (.int .i64 4) ∧ W = w' := by
  have o5 : W.ownsRow B 91 6 P z.ps.length (pnsC z.ps) := h.o 5 _ rfl
  obtain ⟨PA, pc, rfl⟩ := own_form o5
  have a8 : W.cell? ⟨g, 8, none⟩ = some (.slice PA z.ps.length pc) := RowsH.cell h 8
  have CM := Lib.hid (madeC g p W hp (RowsH.cell h 0))
  have hg := h.c.lt
  have d1 : decide ((k : Int) < 0) = false := decide_eq_false (by omega)
  have d2 : decide ((z.ps.length : Int) ≤ (k : Int)) = true := decide_eq_true (by omega)
  have j1 : (z.ps.length : Int) ≤ (k : Int) := by omega
  clear h o5
  go_enter Try.func22, Try.ntmps22
  go_wp2_with fail
  refine CM.out.mono ?_
  rintro e w1 ⟨rfl, rfl⟩
  go_wp2
  go_ret
  exact ⟨rfl, rfl⟩
set_option maxRecDepth 100000 in
set_option maxHeartbeats 2000000 in
theorem backN (B g : Nat) (p s : Int) (z : Pil) (S M V L X P : Value) (W : World) (h : PilH W B g p s z S M V L X P) (hp : 0 < p) (hk : z.steps.length = 0) :
    Calls Try.prog 23 #[.pointer (some ⟨g, 0, none⟩)] W fun e w' => e = .returned (.int .i64 9) ∧ Below W.heap.size W w' := by
  have o0 : W.ownsRow B 35 3 S z.steps.length (wksCells z.steps) := h.o 0 _ rfl
  rw [hk] at o0
  obtain ⟨SA, sc, rfl⟩ := own_form o0
  have h1 := RowsH.below h ((Below.refl W.heap.size W).alloc (Nat.le_refl _) (.cells #[.pointer (some ⟨g, 0, none⟩)] 30))
  have CM := Lib.hid (madeC g p _ hp (RowsH.cell h1 0))
  have hg := h.c.lt
  have a3 : W.cell? ⟨g, 3, none⟩ = some (.slice SA 0 sc) := RowsH.cell h 3
  clear h o0 h1 hk
  refine (callsIn_wide (n := 0)).1 (callsIn_of_wp_marks Try.func23 rfl trivial ?_)
  simp only [Try.ntmps23, List.size_toArray, List.length_cons, List.length_nil, Nat.reduceAdd, Nat.reduceSub, Array.replicate_succ, Array.replicate_zero, List.push_toArray, List.append_toArray, List.nil_append, List.cons_append]
  refine wpIn_wide.2 ?_
  go_wp2_with fail
  refine CM.out.mono ?_
  rintro e w2 ⟨rfl, rfl⟩
  clear CM
  go_wp2
  refine ⟨_, results_tmp rfl _ _ _, ?_⟩
  exact ⟨rfl, by go_grown⟩
def knZ3 : Pil := awZ2.pull 0
def knZ4 : Pil := knZ3.back 1 0 0 0 0
def knZ5 : Pil := knZ4.back 0 0 0 0 (-1)
theorem kn_xs : awZ2.xs = [⟨0, 1, 1, 2⟩, ⟨0, 0, 2, 0⟩, ⟨0, 2, 3, 1⟩] := by decide +kernel
theorem kn_ps : awZ2.ps.map Pn.q = [⟨0, 1, 0, 3⟩] := by decide +kernel
theorem kn_save : saveB 2 2 awZ0 = [80, 76, 1, 2, 2, 0, 0] ++ (saveB 2 2 awZ0).drop 7 ∧ (saveB 2 2 awZ0).length = 13 := by decide +kernel
theorem kn_pin : ∃ x, awZ2.ps = [x] ∧ x.sew = false ∧ x.out = false := by
  have h1 : awZ2.ps.length = 1 := by decide +kernel
  have h2 : awZ2.ps.map Pn.sew = [false] := by decide +kernel
  have h3 : awZ2.ps.map Pn.out = [false] := by decide +kernel
  cases h : awZ2.ps with
  | nil => rw [h] at h1; cases h1
  | cons x l =>
    rw [h] at h1 h2 h3
    obtain rfl : l = [] := by cases l with
      | nil => rfl
      | cons y l => simp at h1
    exact ⟨x, rfl, by simpa using h2, by simpa using h3⟩
theorem kn_three : knZ3.steps.length = 2 ∧ knZ3.marks = [⟨-1, 0, 0, 0⟩, ⟨0, 0, 0, 0⟩] ∧ knZ3.works.length = 1 ∧ knZ3.xs.length = 3 ∧ knZ3.ps.length = 1 ∧ knZ3.l.length = 4 ∧ knZ3.xs = [⟨0, 1, 1, 2⟩, ⟨0, 0, 2, 0⟩, ⟨0, 2, 3, 1⟩] := by decide +kernel
theorem kn_four : knZ4.steps.length = 1 ∧ knZ4.marks = [⟨-1, 0, 0, 0⟩] ∧ knZ4.works.length = 0 ∧ knZ4.xs.length = 0 ∧ knZ4.ps.length = 0 ∧ knZ4.l = [0, 1, 2, 3] ∧ knZ4.xs = [] := by decide +kernel
theorem kn_five : knZ5.steps.length = 0 := by decide +kernel
theorem pilK_mem {z : Pil} {S M V L X P : Value} {i : Nat} {r : RowD} (hi : (pilRows z S M V L X P)[i]? = some r) : r.v ∈ [S, M, V, L, X, P] := by
  have hm := mem_of_get hi
  simp only [pilRows, List.mem_cons, List.not_mem_nil, or_false] at hm
  rcases hm with rfl | rfl | rfl | rfl | rfl | rfl <;> simp
theorem pilK_row {W : World} {B g : Nat} {p s : Int} {z : Pil} {S M V L X P : Value} (h : PilH W B g p s z S M V L X P) {v : Value} (hv : v ∈ [S, M, V, L, X, P]) {b : Nat} (hb : v.ownBlock = some b) : B ≤ b ∧ b < W.heap.size := by
  simp only [List.mem_cons, List.not_mem_nil, or_false] at hv
  rcases hv with rfl | rfl | rfl | rfl | rfl | rfl
  · exact (h.o 0 _ rfl).lt b hb
  · exact (h.o 1 _ rfl).lt b hb
  · exact (h.o 2 _ rfl).lt b hb
  · exact (h.o 3 _ rfl).lt b hb
  · exact (h.o 4 _ rfl).lt b hb
  · exact (h.o 5 _ rfl).lt b hb
theorem pilK_lt {W : World} {B g : Nat} {p s : Int} {z : Pil} {S M V L X P : Value} (h : PilH W B g p s z S M V L X P) {b : Nat} (hb : blkV g [S, M, V, L, X, P] b) : b < W.heap.size := by
  rcases hb with rfl | ⟨v, hv, hb⟩
  · exact h.c.lt
  · exact (pilK_row h hv hb).2
section
variable {W : World} {B g : Nat} {S M V L X P : Value}
theorem pil_below {W W' : World} {B g : Nat} {p s : Int} {z : Pil} {S M V L X P : Value} (h : PilH W B g p s z S M V L X P) (k : KeepB (blkV g [S, M, V, L, X, P]) W W') : Below B W W' :=
  k.below (fun r hr => by
    rcases hr with rfl | ⟨v, hv, hb⟩
    · exact h.b
    · exact (pilK_row h hv hb).1) h.z
theorem kn_pull1 (h : PilH W B g 2 2 awZ2 S M V L X P) : Calls Try.prog 22 #[.pointer (some ⟨g, 0, none⟩), .int .i64 0] W fun e w' => e = .returned (.int .i64 0) ∧ PilH w' B g 2 2 knZ3 S M V L X P ∧ Below B W w' ∧ KeepB (fun r => P.ownBlock = some r) W w' := by
  obtain ⟨x, hx, hs, ho⟩ := kn_pin
  have hx0 : awZ2.ps[0]? = some x := by rw [hx]; rfl
  have hp : pullE x = 0 := by unfold pullE; rw [hs, ho]; rfl
  have h1 := pullK B g 2 2 awZ2 S M V L X P 0 x W h (by decide) hx0
  rw [hp, show awZ2.pulled 0 x = knZ3 from if_pos hp] at h1
  exact h1
theorem kn_pull2 (h : PilH W B g 2 2 knZ3 S M V L X P) : Calls Try.prog 22 #[.pointer (some ⟨g, 0, none⟩), .int .i64 0] W fun e w' => e = .returned (.int .i64 8) ∧ PilH w' B g 2 2 knZ3 S M V L X P ∧ Below B W w' ∧ KeepB (fun r => P.ownBlock = some r) W w' := by
  obtain ⟨x, hx, hs, ho⟩ := kn_pin
  have hx0 : awZ2.ps[0]? = some x := by rw [hx]; rfl
  have hz : knZ3.ps = [{ x with out := true }] := by show (awZ2.pull 0).ps = _; unfold Pil.pull; rw [hx0]; simp [hx]
  have hx1 : knZ3.ps[0]? = some { x with out := true } := by rw [hz]; rfl
  have hp : pullE { x with out := true } = 8 := by unfold pullE; simp [hs]
  have h1 := pullK B g 2 2 knZ3 S M V L X P 0 _ W h (by decide) hx1
  rw [hp, show knZ3.pulled 0 { x with out := true } = knZ3 from if_neg (by rw [hp]; decide)] at h1
  exact h1
theorem kn_pull3 (h : PilH W B g 2 2 knZ3 S M V L X P) : Calls Try.prog 22 #[.pointer (some ⟨g, 0, none⟩), .int .i64 1] W fun e w' => e = .returned (.int .i64 4) ∧ W = w' :=
  pullN B g 2 2 knZ3 S M V L X P 1 W h (by decide) (Nat.le_of_eq kn_three.2.2.2.2.1) (by decide)
theorem kn_back1 (h : PilH W B g 2 2 knZ3 S M V L X P) : Calls Try.prog 23 #[.pointer (some ⟨g, 0, none⟩)] W fun e w' => e = .returned (.int .i64 0) ∧ ∃ S' M' V' L' X' P', PilH w' B g 2 2 knZ4 S' M' V' L' X' P' ∧ Below B W w' ∧ KeepB (blkV g [S, M, V, L, X, P]) W w' := by
  obtain ⟨e1, e2, e3, e4, e5, e6, e7⟩ := kn_three
  refine (backC B g 2 2 knZ3 S M V L X P W h (by decide) 1 0 0 0 0 e1 (by rw [e2]; rfl) (by decide) (by rw [e2]; rfl) (Nat.zero_le _) (Nat.zero_le _) (Nat.zero_le _) (fun q hq => ?_) (by rw [e4]; decide) (by rw [e6]; decide) (by rw [e6]; decide)).mono ?_
  · rw [e7] at hq
    rw [e6]
    rcases List.mem_cons.1 hq with rfl | hq
    · exact ⟨1, rfl, by decide⟩
    · rcases List.mem_cons.1 hq with rfl | hq
      · exact ⟨0, rfl, by decide⟩
      · rcases List.mem_cons.1 hq with rfl | hq
        · exact ⟨2, rfl, by decide⟩
        · cases hq
  · rintro e w' ⟨rfl, S', M', V', L', X', P', h', hk⟩
    exact ⟨rfl, S', M', V', L', X', P', h', pil_below h hk, hk⟩
theorem kn_back2 (h : PilH W B g 2 2 knZ4 S M V L X P) : Calls Try.prog 23 #[.pointer (some ⟨g, 0, none⟩)] W fun e w' => e = .returned (.int .i64 0) ∧ ∃ S' M' V' L' X' P', PilH w' B g 2 2 knZ5 S' M' V' L' X' P' ∧ Below B W w' ∧ KeepB (blkV g [S, M, V, L, X, P]) W w' := by
  obtain ⟨e1, e2, e3, e4, e5, e6, e7⟩ := kn_four
  refine (backC B g 2 2 knZ4 S M V L X P W h (by decide) 0 0 0 0 (-1) e1 (by rw [e2]; rfl) (by decide) (by rw [e2]; rfl) (Nat.zero_le _) (Nat.zero_le _) (Nat.zero_le _) (fun q hq => ?_) (by rw [e4]; decide) (by rw [e6]; decide) (by rw [e6]; decide)).mono ?_
  · rw [e7] at hq; cases hq
  · rintro e w' ⟨rfl, S', M', V', L', X', P', h', hk⟩
    exact ⟨rfl, S', M', V', L', X', P', h', pil_below h hk, hk⟩
theorem kn_cloth (h : PilH W B g 2 2 awZ2 S M V L X P) : Calls Try.prog 15 #[.pointer (some ⟨g, 0, none⟩)] W (RetCl 4 [⟨0, 1, 1, 2⟩, ⟨0, 0, 2, 0⟩, ⟨0, 2, 3, 1⟩] [⟨0, 1, 0, 3⟩] W) := by
  have h1 := clothC B g 2 2 awZ2 S M V L X P W h (by decide) (by rw [kn_xs]; decide) (by have := congrArg List.length kn_ps; rw [List.length_map] at this; rw [this]; decide)
  rw [kn_xs, kn_ps] at h1
  exact h1
theorem kn_line (h : PilH W B g 2 2 knZ4 S M V L X P) : Calls Try.prog 18 #[.pointer (some ⟨g, 0, none⟩)] W (RetO [0, 1, 2, 3] W) := by
  have h1 := lineC B g 2 2 knZ4 S M V L X P W h (by decide) (by rw [kn_four.2.2.2.2.2.1]; decide)
  rw [kn_four.2.2.2.2.2.1] at h1
  exact h1
end
set_option maxRecDepth 100000 in
set_option maxHeartbeats 8000000 in
theorem knownP (w : World) : Calls Try.prog 5 #[] w fun e w' => e = .returned (.bool true) ∧ Below w.heap.size w w' := by
  obtain ⟨l1, l2, l3, l4, l5, l6, l7, l8, l9, l10, l11, l12, l13⟩ := aw_len
  go_enter Try.func5, Try.ntmps5
  go_wp2_with fail
  refine (newC 2 2 _ aw_new).mono ?_
  rintro e w1 ⟨⟨g, S1, M1, V1, L1, X1, P1, rfl, h1⟩, hb1⟩
  have H1 : Hid (PilH w1 w.heap.size g 2 2 awZ0 S1 M1 V1 L1 X1 P1) := h1
  have B1 := Lib.hid hb1
  clear h1 hb1
  go_wp2_with fail
  refine (saveC w.heap.size g 2 2 awZ0 _ _ _ _ _ _ w1 H1.out (by decide) (by decide +kernel) (by decide +kernel) (fun x hx => by cases hx)).mono ?_
  rintro e w2 ⟨A2, n2, c2, rfl, o2, k2, hb2⟩
  obtain rfl : n2 = 13 := by rw [← k2, kn_save.2]
  have H2 := Lib.hid (RowsH.below H1.out hb2)
  have B2 := Lib.hid (bvia B1.out hb2)
  have hc2 := own_caps o2
  have hsl : ∀ W', (Instr.slice 53 (.slice A2 13 c2) none (some (.int .i64 7)) none).run Try.prog W' = .ok (.slice A2 7 c2) W' := fun W' => slice_to 53 1 (by kernel_rfl) (fun W => by kernel_rfl) A2 13 c2 7 (by omega) W'
  have hcv := str_conv (w := w2) (A := A2) (n := 7) (c := c2) (xs := [80, 76, 1, 2, 2, 0, 0]) (fun j x hx => own_rdB o2 j x (by
    rw [kn_save.1, List.getElem?_append_left (lt_of_get hx)]; exact hx)) rfl
  clear hb2 o2 k2 H1 B1 hc2
  go_wp2_with fail
  refine (doC w.heap.size g 2 2 awZ0 _ _ _ _ _ _ awX1 w2 H2.out (by decide) (by omega) (by omega) (by omega) (by omega) (by omega) (by rw [l11]; rfl) aw_one).mono ?_
  rintro e w3 ⟨rfl, ⟨S3, M3, V3, L3, X3, P3, h3, _⟩, hb3⟩
  have H3 : Hid (PilH w3 w.heap.size g 2 2 awZ1 S3 M3 V3 L3 X3 P3) := h3
  have B3 := Lib.hid (B2.out.trans hb3)
  clear h3 hb3 H2 B2 hsl hcv
  go_wp2_with fail
  refine (doC w.heap.size g 2 2 awZ1 _ _ _ _ _ _ awX2 w3 H3.out (by decide) (by omega) (by omega) (by omega) (by omega) (by omega) (by rw [l12]; rfl) aw_two).mono ?_
  rintro e w4 ⟨rfl, ⟨S4, M4, V4, L4, X4, P4, h4, _⟩, hb4⟩
  have H4 : Hid (PilH w4 w.heap.size g 2 2 awZ2 S4 M4 V4 L4 X4 P4) := h4
  have B4 := Lib.hid (B3.out.trans hb4)
  clear h4 hb4 H3 B3
  go_wp2_with fail
  obtain ⟨xq, hxq⟩ : ∃ xq : List Q4, xq = [⟨0, 1, 1, 2⟩, ⟨0, 0, 2, 0⟩, ⟨0, 2, 3, 1⟩] := ⟨_, rfl⟩
  obtain ⟨pq, hpq⟩ : ∃ pq : List Q4, pq = [⟨0, 1, 0, 3⟩] := ⟨_, rfl⟩
  obtain ⟨wa, hwa⟩ : ∃ wa, wa = w4.alloc (.cells #[.int .i64 0, .int .i64 1, .int .i64 1, .int .i64 2, .int .i64 0, .int .i64 0, .int .i64 2, .int .i64 0, .int .i64 0, .int .i64 2, .int .i64 3, .int .i64 1] 47) := ⟨_, rfl⟩
  have HRX : Hid (RdQ wa wa.heap.size (some ⟨w4.heap.size, 0, none⟩) xq) := by
    show RdQ _ _ _ _
    rw [hwa, hxq]
    exact own_rdQ (e := 47) (base := w4.heap.size) (n := 3) (c := 3) (World.ownsRow_lit w4 _ 3 (Nat.le_refl _) (by decide) rfl)
  have za : wa.heap.size = w4.heap.size + 1 := by rw [hwa]; simp
  have BA : Below w4.heap.size w4 wa := by rw [hwa]; exact (Below.refl _ _).alloc (Nat.le_refl _) _
  obtain ⟨wb, hwb⟩ : ∃ wb, wb = wa.alloc (.cells #[.int .i64 0, .int .i64 1, .int .i64 0, .int .i64 3] 56) := ⟨_, rfl⟩
  have HRP : Hid (RdQ wb wb.heap.size (some ⟨w4.heap.size + 1, 0, none⟩) pq) := by
    show RdQ _ _ _ _
    rw [hwb, hpq, ← za]
    exact own_rdQ (e := 56) (base := wa.heap.size) (n := 1) (c := 1) (World.ownsRow_lit wa _ 1 (Nat.le_refl _) (by decide) rfl)
  have BB : Below wa.heap.size wa wb := by rw [hwb]; exact (Below.refl _ _).alloc (Nat.le_refl _) _
  have zb : wb.heap.size = w4.heap.size + 2 := by rw [hwb]; simp [za]
  rewrite [← hwa, ← hwb]
  obtain ⟨w5, hw5⟩ : ∃ w5, w5 = wb.alloc (.cells #[.int .i64 4, .slice (some ⟨w4.heap.size, 0, none⟩) 3 3, .slice (some ⟨w4.heap.size + 1, 0, none⟩) 1 1] 43) := ⟨_, rfl⟩
  have KC : Hid (Has w5 (w4.heap.size + 2) 43 [.int .i64 4, .slice (some ⟨w4.heap.size, 0, none⟩) 3 3, .slice (some ⟨w4.heap.size + 1, 0, none⟩) 1 1]) := by rw [hw5, ← zb]; exact Has.new rfl
  have BC : Below wb.heap.size wb w5 := by rw [hw5]; exact (Below.refl _ _).alloc (Nat.le_refl _) _
  rewrite [← hw5]
  have B45 := Lib.hid (bvia (bvia BA BB) BC)
  have H5 := Lib.hid (RowsH.below H4.out B45.out).drew
  have RX5 := Lib.hid ((HRX.out.up (bvia BB BC)))
  have RP5 := Lib.hid (HRP.out.up BC)
  have B5 := Lib.hid ((bvia B4.out B45.out))
  have KD := Lib.hid KC.out.drew
  have s0 : w5.cell? ⟨w4.heap.size + 2, 0, none⟩ = some (.int .i64 4) := KC.out.cell 0
  have s1 : w5.cell? ⟨w4.heap.size + 2, 1, none⟩ = some (.slice (some ⟨w4.heap.size, 0, none⟩) 3 3) := KC.out.cell 1
  have s2 : w5.cell? ⟨w4.heap.size + 2, 2, none⟩ = some (.slice (some ⟨w4.heap.size + 1, 0, none⟩) 1 1) := KC.out.cell 2
  have sq := KC.out.lt
  have HLT := Lib.hid (fun b (hb : blkV g [S4, M4, V4, L4, X4, P4] b) => pilK_lt H4.out hb)
  clear hwa hwb hw5 BA BB BC za zb H4 B45 KC HRX HRP
  have D0 : Below w5.heap.size w5 w5.drew := ⟨rfl, rfl, rfl, Nat.le_refl _, fun _ _ => rfl⟩
  have CC := Lib.hid (kn_cloth H5.out)
  rw [← hxq, ← hpq] at CC
  have hxl : xq.length = 3 := by rw [hxq]; rfl
  have hpl : pq.length = 1 := by rw [hpq]; rfl
  clear hxq hpq
  go_region_held3 (fun W => W.cell? ⟨w4.heap.size + 2, 0, none⟩ = some (.int .i64 4) ∧ W.cell? ⟨w4.heap.size + 2, 1, none⟩ = some (.slice (some ⟨w4.heap.size, 0, none⟩) 3 3) ∧ W.cell? ⟨w4.heap.size + 2, 2, none⟩ = some (.slice (some ⟨w4.heap.size + 1, 0, none⟩) 1 1)) (first | exact ⟨by assumption, by assumption, by assumption⟩ | go_keep) (first
    | (go_simp; go_at_call 15; refine CC.out.mono ?_; rintro e w6 ⟨CA, cn, cc, DA, dn, dc, rfl, rX, rP, lX, lP, hb6⟩; rw [hxl] at lX; rw [hpl] at lP; subst lX lP; have H6 := RowsH.below H5.out hb6; have RX6 := RX5.out.up (D0.trans hb6); have RP6 := RP5.out.up (D0.trans hb6); have B6 := bvia B5.out (D0.trans hb6); have K6 := KD.out.below hb6 KD.out.lt; have m0 := K6.cell 0; have m1 := K6.cell 1; have m2 := K6.cell 2)
    | (go_simp; go_at_call 21; refine (sameCl 4 CA DA (some ⟨w4.heap.size, 0, none⟩) (some ⟨w4.heap.size + 1, 0, none⟩) 3 cc 1 dc 3 1 xq pq _ (by decide) (by decide) rX RX6 rP RP6 hxl hpl).mono ?_; rintro e w7 ⟨rfl, hb7⟩; have H7 := RowsH.below H6 hb7; have B7 := bvia B6 hb7; have K7 := K6.below hb7 K6.lt; have t0 := K7.cell 0; have t1 := K7.cell 1; have t2 := K7.cell 2)
    | (go_simp; go_at_call 22; refine (kn_pull3 H9).mono ?_; rintro e w10 ⟨rfl, rfl⟩)
    | (go_simp; go_at_call 22; refine (kn_pull2 H8).mono ?_; rintro e w9 ⟨rfl, H9, hb9, hk9⟩; have B9 := B8.trans hb9; have o8 : w8.ownsRow w.heap.size 91 6 P4 knZ3.ps.length (pnsC knZ3.ps) := H8.o 5 _ rfl; have K9 := hk9.has K8 (K8.ne_own o8 (by decide)); have v0 := K9.cell 0; have v1 := K9.cell 1; have v2 := K9.cell 2)
    | (go_simp; go_at_call 22; refine (kn_pull1 H7).mono ?_; rintro e w8 ⟨rfl, H8, hb8, hk8⟩; have B8 := B7.trans hb8; have o7 : w7.ownsRow w.heap.size 91 6 P4 awZ2.ps.length (pnsC awZ2.ps) := H7.o 5 _ rfl; have K8 := hk8.has K7 (K7.ne_own o7 (by decide)); have u0 := K8.cell 0; have u1 := K8.cell 1; have u2 := K8.cell 2)
    | (go_simp; go_at_call 23; refine (kn_back1 H9).mono ?_; rintro e w10 ⟨rfl, S9, M9, V9, L9, X9, P9, H10, hb10, hk10⟩; have B10 := B9.trans hb10; have K10 := hk10.has K9 (fun e => by have := HLT.out _ e; omega); have x0 := K10.cell 0; have x1 := K10.cell 1; have x2 := K10.cell 2; have CL10 := fun (W : World) (hW : Below w10.heap.size w10 W) => kn_line (RowsH.below H10 hW))
    | ((try go_simp); go_at_call 18; refine (CL10 _ (by first | exact Below.refl _ _ | go_grown)).mono ?_; rintro e w11 ⟨A11, n11, c11, rfl, o11, l11', hb11⟩; obtain rfl : 4 = n11 := l11'; have hbb11 : Below w10.heap.size w10 w11 := bvia (by first | exact Below.refl _ _ | go_grown) hb11; have K11 := K10.below hbb11 K10.lt; have y0 := K11.cell 0; have y1 := K11.cell 1; have y2 := K11.cell 2; have CS := fun (b : Nat) (W : World) (r1 : RdI W W.heap.size A11 [0, 1, 2, 3]) (r2 : RdI W W.heap.size (some ⟨b, 0, none⟩) [0, 1, 2, 3]) => sameInts04 A11 (some ⟨b, 0, none⟩) 4 4 c11 4 [0, 1, 2, 3] [0, 1, 2, 3] W (by decide) (by decide) r1 r2 rfl rfl)
    | ((try go_simp); go_at_call 17; have q1 : RdI w11 w11.heap.size A11 [0, 1, 2, 3] := own_rd1 o11; have q2 := Rd1.up (hasI_rd (cs := [0, 1, 2, 3]) (Has.new (w := w10) (arr := #[.int .i64 0, .int .i64 1, .int .i64 2, .int .i64 3]) rfl)) hb11; refine (CS w10.heap.size _ q1 q2).mono ?_; rintro e w12 ⟨rfl, hb12⟩; have hbb12 := bvia hbb11 hb12; have K13 := K10.below hbb12 K10.lt; have z0 := K13.cell 0; have z1 := K13.cell 1; have z2 := K13.cell 2)
    | ((try go_simp); go_at_call 17; have q0 := (Below.refl w11.heap.size w11).alloc (Nat.le_refl _) (.cells #[.int .i64 0, .int .i64 1, .int .i64 2, .int .i64 3] 3); have q1 : RdI (w11.alloc (.cells #[.int .i64 0, .int .i64 1, .int .i64 2, .int .i64 3] 3)) (w11.alloc (.cells #[.int .i64 0, .int .i64 1, .int .i64 2, .int .i64 3] 3)).heap.size A11 [0, 1, 2, 3] := Rd1.up (own_rd1 o11) q0; have q2 := hasI_rd (cs := [0, 1, 2, 3]) (Has.new (w := w11) (arr := #[.int .i64 0, .int .i64 1, .int .i64 2, .int .i64 3]) rfl); refine (CS w11.heap.size _ q1 q2).mono ?_; rintro e w12 ⟨rfl, hb12⟩; have hbb12 := bvia (bvia hbb11 q0) hb12; have K13 := K10.below hbb12 K10.lt; have z0 := K13.cell 0; have z1 := K13.cell 1; have z2 := K13.cell 2)
    | fail)
  all_goals
    have H13 := Lib.hid (RowsH.below H10 hbb12)
    have B13 := Lib.hid (bvia B10 hbb12)
    clear CC RX5 RP5 KD
    go_wp2_with fail
    refine (kn_back2 H13.out).mono ?_
    rintro e w13 ⟨rfl, S13, M13, V13, L13, X13, P13, h13, hb13, _⟩
    have H14 := Lib.hid h13
    have B14 := Lib.hid (B13.out.trans hb13)
    go_wp2_with fail
    refine (backN w.heap.size g 2 2 knZ5 _ _ _ _ _ _ w13 H14.out (by decide) kn_five).mono ?_
    rintro e w14 ⟨rfl, hb14⟩
    have B15 := Lib.hid (bvia B14.out hb14)
    go_wp2_with fail
    refine (awakeP _).mono ?_
    rintro e w15 ⟨rfl, hb15⟩
    go_wp2
    go_ret
    exact ⟨rfl, bvia B15.out hb15⟩
end Go.Proofs.Ytaenafcecfdffaa
