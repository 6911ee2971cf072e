/-
  Walk of the law ClothThreads, given what the law's shown says.
-/
import Derived.Test.YtpljaoagiaijiaaV19
import Derived.Test.YtpljaoagiaijiaaV20
namespace Go.Proofs.Ytpljaoagiaijiaa
open Go.RowKit
/-- what the law's shown says -/
def ShownSays : Prop := ∀ w : World, Calls Try.prog 10 #[] w fun e w' => e = .returned (.bool true) ∧ Below w.heap.size w w'
def GreatR (e : Ending) : Prop := ∃ b : Bool, e = .returned (.bool b)
theorem GreatR.of {v : Value} {b : Bool} (h : v = .bool b) : GreatR (.returned v) := ⟨b, by rw [h]⟩
set_option maxRecDepth 100000 in
set_option maxHeartbeats 1000000 in
theorem great22 (t : Int) (A B : Option Addr) (n c m d : Nat) (w : World) :
    Calls Try.prog 22 #[vCloth t A n c B m d] w fun e w' => GreatR e ∧ Below w.heap.size w w' := by
  go_enter Try.func22, Try.ntmps22
  go_wp2
  all_goals go_ret
  all_goals exact ⟨GreatR.of rfl, by go_grown⟩
def RdG (w : World) (B : Nat) (A : Option Addr) (xs : List Gt) : Prop :=
  ∀ (k : Nat) (x : Gt), xs[k]? = some x → ∃ b o, A = some ⟨b, o, none⟩ ∧ b < B ∧ w.cell? ⟨b, o + k*2, none⟩ = some (.int .i64 x.w) ∧ w.cell? ⟨b, o + k*2+1, none⟩ = some (.int .i64 x.s)
theorem RdG.up {w w' : World} {A : Option Addr} {xs : List Gt} (h : RdG w w.heap.size A xs) (hb : Below w.heap.size w w') : RdG w' w'.heap.size A xs := fun k x hx => by
  obtain ⟨b, o, h1, h2, h3, h4⟩ := h k x hx
  exact ⟨b, o, h1, Nat.lt_of_lt_of_le h2 hb.size, (hb.cell h2).trans h3, (hb.cell h2).trans h4⟩
theorem gtsCells_get {x : Gt} : ∀ {ys : List Gt} {k : Nat}, ys[k]? = some x → (gtsCells ys)[k * 2]? = some (.int .i64 x.w) ∧ (gtsCells ys)[k * 2 + 1]? = some (.int .i64 x.s)
  | [], k, h => by simp at h
  | y :: ys, 0, h => by simp at h; subst h; simp [gtsCells, gtCells]
  | y :: ys, k + 1, h => by
    have := gtsCells_get (ys := ys) (k := k) (by simpa using h)
    simp only [gtsCells, List.flatMap_cons, Nat.succ_mul] at *
    simp only [gtCells, List.cons_append, List.nil_append] at *
    exact this
theorem own_rdG {w : World} {base : Nat} {e : TypeId} {n c : Nat} {A : Option Addr} {ws : List Gt} (h : w.ownsRow base e 2 (.slice A n c) n (gtsCells ws)) : RdG w w.heap.size A ws := fun k x hx => by
  obtain ⟨e0, e1⟩ := gtsCells_get hx
  obtain ⟨g, h1, _, h3, h4⟩ := own_at h e0
  obtain ⟨g', h1', _, _, h4'⟩ := own_at h e1
  rw [h1] at h1'; injection h1' with h1'; injection h1' with h1'; subst h1'
  refine ⟨g, 0, h1, h3, ?_, ?_⟩ <;> rw [Nat.zero_add] <;> assumption
theorem eqGt (a b : Int) (w : World) : (Op.equalIn 10000 62 (.agg #[.int .i64 a, .int .i64 b]) (.agg #[.int .i64 a, .int .i64 b])).run Try.prog w = .ok true w := by
  have u3 := Try.underlying3
  have a3 := Try.isAgg3
  have z3 := Try.sizeOf3
  have hS : Try.prog.underlying 62 = some (.struct (Try.prog.fieldsOf 62)) := by kernel_rfl
  have hp : Try.prog.stoodInHeld 62 = false := by kernel_rfl
  rw [show (10000 : Nat) = 9999 + 1 from rfl, run_equalIn_agg w 9999 62 _ _ hS hp]
  simp only [Program.fieldsOf, Try.underlying62]
  go_simp
set_option maxRecDepth 100000 in
set_option maxHeartbeats 8000000 in
theorem threadsOf (hs : ShownSays) (t : Int) (A B : Option Addr) (n c m d : Nat) (a b : Int) (xs ps : List Q4) (w : World) (hn : n ≤ 9223372036854775807) (hm : m ≤ 9223372036854775807) (hx : RdQ w w.heap.size A xs) (hp : RdQ w w.heap.size B ps)
    (hl : xs.length = n) (hl' : ps.length = m) (ht0 : -9223372036854775808 ≤ t) :
    Calls Try.prog 6 #[vCloth t A n c B m d, .int .i64 a, .int .i64 b] w fun e w' => e = .returned (.bool true) ∧ Below w.heap.size w w' := by
  have SS := Lib.hid hs; clear hs
  have C1 := Lib.hid (fun (W : World) (hb : Below w.heap.size w W) => follow23 t A B n c m d a xs ps W hn hm (hx.up hb) (hp.up hb) hl hl' ht0)
  have C2 := Lib.hid (fun (W : World) (hb : Below w.heap.size w W) => follow24 t A B n c m d a xs ps W hn hm (hx.up hb) (hp.up hb) hl hl' ht0)
  have C3 := Lib.hid (fun (W : World) (hb : Below w.heap.size w W) => meet21 t A B n c m d a b xs ps W hn hm (hx.up hb) (hp.up hb) hl hl' ht0)
  have C4 := Lib.hid (fun (W : World) (hb : Below w.heap.size w W) => meet25 t A B n c m d a b xs ps W hn hm (hx.up hb) (hp.up hb) hl hl' ht0)
  have C5 := Lib.hid (fun (W : World) (hb : Below w.heap.size w W) => gates26 t A B n c m d a xs ps W hn hm (hx.up hb) (hp.up hb) hl hl' ht0)
  have C6 := Lib.hid (fun (W : World) (hb : Below w.heap.size w W) => gates27 t A B n c m d a xs ps W hn hm (hx.up hb) (hp.up hb) hl hl' ht0)
  clear hx hp
  generalize askE t xs ps [a] = r1 at *
  generalize askE t xs ps [a, b] = r2 at *
  generalize ofR t xs ps [a] = L1 at *
  generalize ofR t xs ps [a, b] = L2 at *
  generalize gatesR t xs ps a = G at *
  have K0 : Has (w.alloc (.cells #[.int .i64 t, .slice A n c, .slice B m d] 30)) w.heap.size 30 [.int .i64 t, .slice A n c, .slice B m d] := Has.new rfl
  have B0 : Below w.heap.size w (w.alloc (.cells #[.int .i64 t, .slice A n c, .slice B m d] 30)) := by go_grown
  have CG := Lib.hid (great22 t A B n c m d (w.alloc (.cells #[.int .i64 t, .slice A n c, .slice B m d] 30)))
  go_enter Try.func6, Try.ntmps6
  go_wp2_with fail
  refine CG.out.mono ?_
  rintro e w1 ⟨⟨bb, rfl⟩, hb1⟩
  have B1 := bvia B0 hb1
  have HB := Lib.hid (K0.below hb1 K0.lt)
  clear K0 hb1 CG B0
  cases bb with
  | true =>
    go_wp2_with fail
    refine (SS.out _).mono ?_
    rintro e w2 ⟨rfl, hb2⟩
    go_wp2
    go_ret
    exact ⟨rfl, bvia B1 hb2⟩
  | false =>
    have a0 : w1.cell? ⟨w.heap.size, 0, none⟩ = some (.int .i64 t) := HB.out.cell 0
    have a1 : w1.cell? ⟨w.heap.size, 1, none⟩ = some (.slice A n c) := HB.out.cell 1
    have a2 : w1.cell? ⟨w.heap.size, 2, none⟩ = some (.slice B m d) := HB.out.cell 2
    have q := HB.out.lt
    go_wp2_with fail
    refine (C1.out _ B1).mono ?_
    rintro e w2 ⟨A2, n2, c2, rfl, r2, l2, k2, k2', hb2⟩
    have B2 := bvia B1 hb2
    replace HB := Lib.hid (HB.out.below hb2 HB.out.lt)
    clear hb2 a0 a1 a2 q
    have HA := Lib.hid r2; clear r2
    have HAl := Lib.hid l2; clear l2
    have HAk : n2 ≤ 9223372036854775807 := Nat.le_trans k2 k2'
    clear k2 k2'
    have a0 : w2.cell? ⟨w.heap.size, 0, none⟩ = some (.int .i64 t) := HB.out.cell 0
    have a1 : w2.cell? ⟨w.heap.size, 1, none⟩ = some (.slice A n c) := HB.out.cell 1
    have a2 : w2.cell? ⟨w.heap.size, 2, none⟩ = some (.slice B m d) := HB.out.cell 2
    have q := HB.out.lt
    go_wp2_with fail
    refine (C2.out _ B2).mono ?_
    rintro e w3 ⟨A3, n3, c3, rfl, r3, l3, k3, k3', hb3⟩
    have B3 := bvia B2 hb3
    replace HB := Lib.hid (HB.out.below hb3 HB.out.lt)
    replace HA := Lib.hid (HA.out.up hb3)
    clear hb3 a0 a1 a2 q
    have HC := Lib.hid r3; clear r3
    have HCl := Lib.hid l3; clear l3
    have HCk : n3 ≤ 9223372036854775807 := Nat.le_trans k3 k3'
    clear k3 k3'
    have a0 : w3.cell? ⟨w.heap.size, 0, none⟩ = some (.int .i64 t) := HB.out.cell 0
    have a1 : w3.cell? ⟨w.heap.size, 1, none⟩ = some (.slice A n c) := HB.out.cell 1
    have a2 : w3.cell? ⟨w.heap.size, 2, none⟩ = some (.slice B m d) := HB.out.cell 2
    have q := HB.out.lt
    go_wp2_with fail
    refine (C3.out _ B3).mono ?_
    rintro e w4 ⟨A4, n4, c4, rfl, r4, l4, k4, k4', hb4⟩
    have B4 := bvia B3 hb4
    replace HB := Lib.hid (HB.out.below hb4 HB.out.lt)
    replace HA := Lib.hid (HA.out.up hb4)
    replace HC := Lib.hid (HC.out.up hb4)
    clear hb4 a0 a1 a2 q
    have HD := Lib.hid r4; clear r4
    have HDl := Lib.hid l4; clear l4
    have HDk : n4 ≤ 9223372036854775807 := Nat.le_trans k4 k4'
    clear k4 k4'
    have a0 : w4.cell? ⟨w.heap.size, 0, none⟩ = some (.int .i64 t) := HB.out.cell 0
    have a1 : w4.cell? ⟨w.heap.size, 1, none⟩ = some (.slice A n c) := HB.out.cell 1
    have a2 : w4.cell? ⟨w.heap.size, 2, none⟩ = some (.slice B m d) := HB.out.cell 2
    have q := HB.out.lt
    go_wp2_with fail
    refine (C4.out _ B4).mono ?_
    rintro e w5 ⟨A5, n5, c5, rfl, r5, l5, k5, k5', hb5⟩
    have B5 := bvia B4 hb5
    replace HB := Lib.hid (HB.out.below hb5 HB.out.lt)
    replace HA := Lib.hid (HA.out.up hb5)
    replace HC := Lib.hid (HC.out.up hb5)
    replace HD := Lib.hid (HD.out.up hb5)
    clear hb5 a0 a1 a2 q
    have HE := Lib.hid r5; clear r5
    have HEl := Lib.hid l5; clear l5
    have HEk : n5 ≤ 9223372036854775807 := Nat.le_trans k5 k5'
    clear k5 k5'
    have a0 : w5.cell? ⟨w.heap.size, 0, none⟩ = some (.int .i64 t) := HB.out.cell 0
    have a1 : w5.cell? ⟨w.heap.size, 1, none⟩ = some (.slice A n c) := HB.out.cell 1
    have a2 : w5.cell? ⟨w.heap.size, 2, none⟩ = some (.slice B m d) := HB.out.cell 2
    have q := HB.out.lt
    go_wp2_with fail
    refine (C5.out _ B5).mono ?_
    rintro e w6 ⟨A6, n6, c6, rfl, r6, l6, hb6⟩
    have o6 := own_caps r6
    have B6 := bvia B5 hb6
    replace HB := Lib.hid (HB.out.below hb6 HB.out.lt)
    replace HA := Lib.hid (HA.out.up hb6)
    replace HC := Lib.hid (HC.out.up hb6)
    replace HD := Lib.hid (HD.out.up hb6)
    replace HE := Lib.hid (HE.out.up hb6)
    clear hb6 a0 a1 a2 q
    have HG := Lib.hid (own_rdG r6); clear r6
    have HGl := Lib.hid l6; clear l6
    have HGk : n6 ≤ 9223372036854775807 := Nat.le_trans o6.1 o6.2
    clear o6
    have a0 : w6.cell? ⟨w.heap.size, 0, none⟩ = some (.int .i64 t) := HB.out.cell 0
    have a1 : w6.cell? ⟨w.heap.size, 1, none⟩ = some (.slice A n c) := HB.out.cell 1
    have a2 : w6.cell? ⟨w.heap.size, 2, none⟩ = some (.slice B m d) := HB.out.cell 2
    have q := HB.out.lt
    go_wp2_with fail
    refine (C6.out _ B6).mono ?_
    rintro e w7 ⟨A7, n7, c7, rfl, r7, l7, hb7⟩
    have o7 := own_caps r7
    replace HG := Lib.hid (RdG.up HG.out hb7)
    have B7 := bvia B6 hb7
    replace HB := Lib.hid (HB.out.below hb7 HB.out.lt)
    replace HA := Lib.hid (HA.out.up hb7)
    replace HC := Lib.hid (HC.out.up hb7)
    replace HD := Lib.hid (HD.out.up hb7)
    replace HE := Lib.hid (HE.out.up hb7)
    clear hb7 a0 a1 a2 q
    have HH := Lib.hid (own_rdG r7); clear r7
    have HHl := Lib.hid l7; clear l7
    have HHk : n7 ≤ 9223372036854775807 := Nat.le_trans o7.1 o7.2
    clear o7
    obtain rfl : n6 = n7 := by rw [← HGl.out, ← HHl.out]
    have J1 := Lib.hid (sameInts04 A2 A3 n2 n3 c2 c3 _ _ w7 HAk HCk HA.out HC.out HAl.out HCl.out)
    simp only [beq_self_eq_true] at J1
    have a0 : w7.cell? ⟨w.heap.size, 0, none⟩ = some (.int .i64 t) := HB.out.cell 0
    have a1 : w7.cell? ⟨w.heap.size, 1, none⟩ = some (.slice A n c) := HB.out.cell 1
    have a2 : w7.cell? ⟨w.heap.size, 2, none⟩ = some (.slice B m d) := HB.out.cell 2
    have q := HB.out.lt
    go_wp2_with fail
    refine (J1.out).mono ?_
    rintro e w8 ⟨rfl, hb8⟩
    replace HG := Lib.hid (RdG.up HG.out hb8)
    replace HH := Lib.hid (RdG.up HH.out hb8)
    have B8 := bvia B7 hb8
    replace HB := Lib.hid (HB.out.below hb8 HB.out.lt)
    replace HA := Lib.hid (HA.out.up hb8)
    replace HC := Lib.hid (HC.out.up hb8)
    replace HD := Lib.hid (HD.out.up hb8)
    replace HE := Lib.hid (HE.out.up hb8)
    clear hb8 a0 a1 a2 q
    clear J1
    have J2 := Lib.hid (sameInts04 A4 A5 n4 n5 c4 c5 _ _ w8 HDk HEk HD.out HE.out HDl.out HEl.out)
    simp only [beq_self_eq_true] at J2
    have a0 : w8.cell? ⟨w.heap.size, 0, none⟩ = some (.int .i64 t) := HB.out.cell 0
    have a1 : w8.cell? ⟨w.heap.size, 1, none⟩ = some (.slice A n c) := HB.out.cell 1
    have a2 : w8.cell? ⟨w.heap.size, 2, none⟩ = some (.slice B m d) := HB.out.cell 2
    have q := HB.out.lt
    go_wp2_with fail
    refine (J2.out).mono ?_
    rintro e w9 ⟨rfl, hb9⟩
    replace HG := Lib.hid (RdG.up HG.out hb9)
    replace HH := Lib.hid (RdG.up HH.out hb9)
    have B9 := bvia B8 hb9
    replace HB := Lib.hid (HB.out.below hb9 HB.out.lt)
    replace HA := Lib.hid (HA.out.up hb9)
    replace HC := Lib.hid (HC.out.up hb9)
    replace HD := Lib.hid (HD.out.up hb9)
    replace HE := Lib.hid (HE.out.up hb9)
    clear hb9 a0 a1 a2 q
    clear J2
    clear HA HC HD HE HAl HCl HDl HEl C1 C2 C3 C4 C5 C6
    go_wp2
    go_loopw [19] (fun i wr => ∃ j : Nat, j ≤ n6 ∧ i = .int .i64 (j : Int) ∧ Below w9.heap.size w9 wr) (fun i _ => n6 - (intOf i).toNat)
    case atStart => exact ⟨0, Nat.zero_le _, rfl, Below.refl _ _⟩
    case round =>
      obtain ⟨j, hj, rfl, hb⟩ := hrel
      obtain ⟨wo, rfl⟩ : ∃ wo : World, wo = wr := ⟨_, rfl⟩
      have hz := hb.size
      by_cases hlt : j < n6
      · obtain ⟨x, hx⟩ := get_of_lt (l := G) (k := j) (by rw [HGl.out]; exact hlt)
        obtain ⟨bu, ou, rfl, hbu, u0, u1⟩ := HG.out _ x hx
        obtain ⟨bv, ov, rfl, hbv, v0, v1⟩ := HH.out _ x hx
        have x0 := (hb.cell (p := ⟨bu, ou + j * 2, none⟩) hbu).trans u0
        have x1 := (hb.cell (p := ⟨bu, ou + j * 2 + 1, none⟩) hbu).trans u1
        have y0 := (hb.cell (p := ⟨bv, ov + j * 2, none⟩) hbv).trans v0
        have y1 := (hb.cell (p := ⟨bv, ov + j * 2 + 1, none⟩) hbv).trans v1
        have zu : bu < wo.heap.size := by omega
        have zv : bv < wo.heap.size := by omega
        have jn : (j : Int) < (n6 : Int) := by omega
        have EQ := fun W => eqGt x.w x.s W
        clear hx u0 u1 v0 v1
        have HJ := Lib.hid hlt
        go_wp2
        have hxc := fun (x : Ext wo) => x.cell
        refine wp_region_ext (by kernel_rfl) (by kernel_rfl) ?_
        repeat (go_big_quiet_step (fail))
        refine wpQuiet_nil ?_
        intro w6 hw'
        have hb6 := ext_below hw'; clear hw' hxc
        have B6 := hb.trans (hb6.mono hz)
        clear hb6
        go_wp2
        go_roundw
        case rel => exact ⟨j + 1, (by have := HJ.out; omega), by go_num, B6⟩
        case measure => (have := HJ.out; first | (simp [intOf]; done) | (simp [intOf]; omega))
      · obtain rfl : n6 = j := by omega
        have B10 := bvia B9 hb
        go_wp2_with fail
        refine (SS.out _).mono ?_
        rintro e w11 ⟨rfl, hb11⟩
        go_wp2
        go_ret
        exact ⟨rfl, bvia B10 hb11⟩
end Go.Proofs.Ytpljaoagiaijiaa
/-
  Contract of the law of chapter 17: shown: the example comes out as the document says.
-/
namespace Go.Proofs.Ytpljaoagiaijiaa
open Go.RowKit
def exX : List Q4 := [⟨0, 1, 1, 2⟩, ⟨0, 0, 2, 0⟩, ⟨0, 2, 3, 1⟩, ⟨0, 1, 0, 3⟩]
def exP : List Q4 := [⟨0, 1, 0, 3⟩]
theorem ex_chk : ckE 4 exX exP = 0 := by decide +kernel
theorem ex_ends : endsR 4 exX exP = [2, 3, 0, 1] := by decide +kernel
theorem ex_ask : askE 4 exX exP [0] = 0 := by decide +kernel
theorem ex_of : ofR 4 exX exP [0] = [1, 3] := by decide +kernel
theorem ex_sheet : schk 2 [⟨1, 0, ⟨#[67, 84, 80, 67]⟩⟩] = 0 := by decide +kernel
theorem rdQ_cells {w : World} {g : Nat} {t : TypeId} {xs : List Q4} (h : Has w g t (qsC xs)) : RdQ w w.heap.size (some ⟨g, 0, none⟩) xs := fun k x hx => by
  obtain ⟨e0, e1, e2, e3⟩ := qsC_get hx
  refine ⟨g, 0, rfl, h.lt, ?_, ?_, ?_, ?_⟩ <;> rw [Nat.zero_add, h.cell] <;> assumption
theorem exMake (A : Option Addr) (w : World) (hw : RdW w w.heap.size A [⟨1, 0, ⟨#[67, 84, 80, 67]⟩⟩]) : Calls Try.prog 11 #[.agg #[.int .i64 2, .slice A 1 1]] w (RetCE 4 exX exP 0 w) := by
  have h := make11 2 A 1 1 _ w (by omega) hw rfl ex_sheet
  rw [mk_example.1, mk_example.2] at h
  exact h
section
variable (A B : Option Addr) (w : World) (hx : RdQ w w.heap.size A exX) (hp : RdQ w w.heap.size B exP)
include hx hp
theorem exEnds : Calls Try.prog 18 #[vCloth 4 A 4 4 B 1 1] w (RetIE [2, 3, 0, 1] 0 w) := by
  have h := ends18 4 A B 4 4 1 1 exX exP w (by omega) (by omega) hx hp rfl rfl (by omega)
  rwa [ex_chk, ex_ends] at h
theorem exFollow : Calls Try.prog 23 #[vCloth 4 A 4 4 B 1 1, .int .i64 0] w (RetIE [1, 3] 0 w) := by
  have h := follow23 4 A B 4 4 1 1 0 exX exP w (by omega) (by omega) hx hp rfl rfl (by omega)
  rwa [ex_ask, ex_of] at h
end
theorem rdI_lit (w : World) (l : List Int) : RdI (w.alloc (.cells (l.map vInt).toArray 3)) (w.alloc (.cells (l.map vInt).toArray 3)).heap.size (some ⟨w.heap.size, 0, none⟩) l := rdI_hasC (Has.new rfl)
set_option maxRecDepth 100000 in
set_option maxHeartbeats 2000000 in
theorem shown10 : ShownSays := by
  intro w
  go_enter Try.func10, Try.ntmps10
  go_wp2_with fail
  refine (exMake _ _ ((rdW_one w 1 0 ⟨#[67, 84, 80, 67]⟩ 52).up (by go_grown))).mono ?_
  rintro e w1 ⟨A1, n1, c1, B1, m1, d1, rfl, x1, p1, ln, lm, _, _, _, _, hb1⟩
  obtain rfl : 4 = n1 := ln
  obtain rfl : 1 = m1 := lm
  have L1 : Below w.heap.size w w1 := bvia (by go_grown) hb1
  have HX := Lib.hid x1; have HP := Lib.hid p1; clear x1 p1 hb1
  obtain ⟨W2, hW2⟩ : ∃ W2, W2 = (((w1.alloc (.cells #[.int .i64 4, .slice A1 4 c1, .slice B1 1 d1] 30)).alloc (.cells #[.int .i64 0, .int .i64 1, .int .i64 1, .int .i64 2, .int .i64 0, .int .i64 0, .int .i64 2, .int .i64 0, .int .i64 0, .int .i64 2, .int .i64 3, .int .i64 1, .int .i64 0, .int .i64 1, .int .i64 0, .int .i64 3] 70)).alloc (.cells #[.int .i64 0, .int .i64 1, .int .i64 0, .int .i64 3] 72)).alloc (.cells #[.int .i64 4, .slice (some ⟨w1.heap.size + 1, 0, none⟩) 4 4, .slice (some ⟨w1.heap.size + 1 + 1, 0, none⟩) 1 1] 30) := ⟨_, rfl⟩
  have hb2 : Below w1.heap.size w1 W2 := by rw [hW2]; go_grown
  have KC : Has W2 w1.heap.size 30 [.int .i64 4, .slice A1 4 c1, .slice B1 1 d1] := by rw [hW2]; exact (((Has.new rfl).alloc _).alloc _).alloc _
  have KX : Has W2 (w1.heap.size + 1) 70 (qsC exX) := by rw [hW2]; exact ((Has.new2 rfl).alloc _).alloc _
  have KP : Has W2 (w1.heap.size + 1 + 1) 72 (qsC exP) := by
    rw [hW2]
    refine Has.alloc ?_ _
    have := Has.new2 (w := w1.alloc (.cells #[.int .i64 4, .slice A1 4 c1, .slice B1 1 d1] 30)) (o := .cells #[.int .i64 0, .int .i64 1, .int .i64 1, .int .i64 2, .int .i64 0, .int .i64 0, .int .i64 2, .int .i64 0, .int .i64 0, .int .i64 2, .int .i64 3, .int .i64 1, .int .i64 0, .int .i64 1, .int .i64 0, .int .i64 3] 70) (arr := #[.int .i64 0, .int .i64 1, .int .i64 0, .int .i64 3]) (t := 72) (cs := qsC exP) rfl
    simpa using this
  have KW : Has W2 (w1.heap.size + 1 + 1 + 1) 30 [.int .i64 4, .slice (some ⟨w1.heap.size + 1, 0, none⟩) 4 4, .slice (some ⟨w1.heap.size + 1 + 1, 0, none⟩) 1 1] := by
    rw [hW2]
    have := Has.new (w := ((w1.alloc (.cells #[.int .i64 4, .slice A1 4 c1, .slice B1 1 d1] 30)).alloc (.cells #[.int .i64 0, .int .i64 1, .int .i64 1, .int .i64 2, .int .i64 0, .int .i64 0, .int .i64 2, .int .i64 0, .int .i64 0, .int .i64 2, .int .i64 3, .int .i64 1, .int .i64 0, .int .i64 1, .int .i64 0, .int .i64 3] 70)).alloc (.cells #[.int .i64 0, .int .i64 1, .int .i64 0, .int .i64 3] 72)) (arr := #[.int .i64 4, .slice (some ⟨w1.heap.size + 1, 0, none⟩) 4 4, .slice (some ⟨w1.heap.size + 1 + 1, 0, none⟩) 1 1]) (t := 30) (cs := [.int .i64 4, .slice (some ⟨w1.heap.size + 1, 0, none⟩) 4 4, .slice (some ⟨w1.heap.size + 1 + 1, 0, none⟩) 1 1]) rfl
    simpa using this
  have HX1 := Lib.hid (HX.out.up hb2)
  have HP1 := Lib.hid (HP.out.up hb2)
  have HX2 := Lib.hid (rdQ_cells KX)
  have HP2 := Lib.hid (rdQ_cells KP)
  have L2 := bvia L1 hb2
  clear HX HP KX KP
  go_wp2_with fail
  rw [← hW2]
  obtain ⟨g0, hg0⟩ : ∃ g, g = w1.heap.size := ⟨_, rfl⟩
  rw [← hg0] at KC KW HX2 HP2 ⊢
  clear hW2 hb2 hg0
  refine (exEnds _ _ W2 HX2.out HP2.out).mono ?_
  rintro e w3 ⟨A3, n3, c3, rfl, r3, l3, _, _, hb3⟩
  obtain rfl : 4 = n3 := l3
  have L3 := bvia L2 hb3
  have HX1 := Lib.hid (HX1.out.up hb3); have HP1 := Lib.hid (HP1.out.up hb3); have HX2 := Lib.hid (HX2.out.up hb3); have HP2 := Lib.hid (HP2.out.up hb3); have HR3 := Lib.hid r3
  replace KC := KC.below hb3 KC.lt
  replace KW := KW.below hb3 KW.lt
  have k0 : w3.cell? ⟨g0 + 1 + 1 + 1, 0, none⟩ = some (.int .i64 4) := KW.cell 0
  have k1 : w3.cell? ⟨g0 + 1 + 1 + 1, 1, none⟩ = some (.slice (some ⟨g0 + 1, 0, none⟩) 4 4) := KW.cell 1
  have k2 : w3.cell? ⟨g0 + 1 + 1 + 1, 2, none⟩ = some (.slice (some ⟨g0 + 1 + 1, 0, none⟩) 1 1) := KW.cell 2
  have qk := KW.lt
  clear r3 hb3 L1 L2
  go_wp2_with fail
  refine (exFollow _ _ w3 HX2.out HP2.out).mono ?_
  rintro e w4 ⟨A4, n4, c4, rfl, r4, l4, _, _, hb4⟩
  obtain rfl : 2 = n4 := l4
  have L4 := bvia L3 hb4
  have HX1 := Lib.hid (HX1.out.up hb4); have HP1 := Lib.hid (HP1.out.up hb4); have HX2 := Lib.hid (HX2.out.up hb4); have HP2 := Lib.hid (HP2.out.up hb4); have HR3 := Lib.hid (HR3.out.up hb4); have HR4 := Lib.hid r4
  replace KC := KC.below hb4 KC.lt
  replace KW := KW.below hb4 KW.lt
  clear k0 k1 k2 qk r4 hb4 L3
  have k0 : w4.cell? ⟨g0 + 1 + 1 + 1, 0, none⟩ = some (.int .i64 4) := KW.cell 0
  have k1 : w4.cell? ⟨g0 + 1 + 1 + 1, 1, none⟩ = some (.slice (some ⟨g0 + 1, 0, none⟩) 4 4) := KW.cell 1
  have k2 : w4.cell? ⟨g0 + 1 + 1 + 1, 2, none⟩ = some (.slice (some ⟨g0 + 1 + 1, 0, none⟩) 1 1) := KW.cell 2
  have m0 : w4.cell? ⟨g0, 0, none⟩ = some (.int .i64 4) := KC.cell 0
  have m1 : w4.cell? ⟨g0, 1, none⟩ = some (.slice A1 4 c1) := KC.cell 1
  have m2 : w4.cell? ⟨g0, 2, none⟩ = some (.slice B1 1 d1) := KC.cell 2
  have qk := KW.lt
  clear KC KW
  go_wp2_with fail
  refine (same13 4 A1 B1 _ _ 4 c1 1 d1 4 1 exX exP w4 (by omega) (by omega) HX1.out HX2.out HP1.out HP2.out rfl rfl).mono ?_
  rintro e w5 ⟨rfl, hb5⟩
  have L5 := bvia L4 hb5
  have HR3 := Lib.hid (HR3.out.up hb5); have HR4 := Lib.hid (HR4.out.up hb5)
  clear k0 k1 k2 m0 m1 m2 qk L4 HX1 HX2 HP1 HP2 hb5
  have L6 := bvia L5 (show Below w5.heap.size w5 (w5.alloc (.cells (([2, 3, 0, 1] : List Int).map vInt).toArray 3)) by go_grown)
  have J6 := sameInts04 A3 (some ⟨w5.heap.size, 0, none⟩) 4 4 c3 4 [2, 3, 0, 1] [2, 3, 0, 1] _ (by omega) (by omega) (HR3.out.up (show Below w5.heap.size w5 _ by go_grown)) (rdI_lit w5 [2, 3, 0, 1]) rfl rfl
  have J6' := Lib.hid J6
  clear J6
  go_wp2_with fail
  refine J6'.out.mono ?_
  rintro e w6 ⟨rfl, hb6⟩
  have L7 := bvia L6 hb6
  have HR4 := Lib.hid (HR4.out.up (bvia (show Below w5.heap.size w5 (w5.alloc (.cells (([2, 3, 0, 1] : List Int).map vInt).toArray 3)) by go_grown) hb6))
  clear HR3 hb6 J6' L5 L6
  have J8 := Lib.hid (sameInts04 A4 (some ⟨w6.heap.size, 0, none⟩) 2 2 c4 2 [1, 3] [1, 3] _ (by omega) (by omega) (HR4.out.up (show Below w6.heap.size w6 _ by go_grown)) (rdI_lit w6 [1, 3]) rfl rfl)
  have L8 := bvia L7 (show Below w6.heap.size w6 (w6.alloc (.cells (([1, 3] : List Int).map vInt).toArray 3)) by go_grown)
  have e1 : (([2, 3, 0, 1] : List Int) == [2, 3, 0, 1]) = true := by decide
  have e2 : (([1, 3] : List Int) == [1, 3]) = true := by decide
  go_wp2_with fail
  refine J8.out.mono ?_
  rintro e w9 ⟨rfl, hb9⟩
  have L9 := bvia L8 hb9
  clear J8 hb9
  go_wp2
  go_ret
  exact ⟨rfl, L9⟩
end Go.Proofs.Ytpljaoagiaijiaa
/-
  Walk of the law ClothMakes.
-/
namespace Go.Proofs.Ytpljaoagiaijiaa
open Go.RowKit
set_option maxRecDepth 100000 in
set_option maxHeartbeats 1000000 in
theorem make12e (p : Int) (A : Option Addr) (n c : Nat) (ws : List Wk) (w : World) (hn : n ≤ 9223372036854775807) (hw : RdW w w.heap.size A ws) (hl : ws.length = n) (hs : ∀ x ∈ ws, x.word.size ≤ 9223372036854775807) (hE : schk p ws ≠ 0) :
    Calls Try.prog 12 #[.agg #[.int .i64 p, .slice A n c]] w (RetCE 0 [] [] (schk p ws) w) := by
  have C1 := Lib.hid (fun (W : World) (hb : Below w.heap.size w W) => check04 p A n c ws W hn (hw.up hb) hl hs)
  clear hw hl hs
  generalize schk p ws = r at *
  have hr : (r != 0) = true := by simpa using hE
  clear hE
  go_enter Try.func12, Try.ntmps12
  go_wp2_with fail
  refine (C1.out _ (by go_grown)).mono ?_
  rintro e w1 ⟨rfl, hb1⟩
  have K2 : Has w1 (w.heap.size + 1) 30 [.int .i64 0, .slice none 0 0, .slice none 0 0] := (Has.new2 rfl).below hb1 (by simp)
  have B1 : Below w.heap.size w w1 := bvia (show Below w.heap.size w _ by go_grown) hb1
  have z0 : w1.cell? ⟨w.heap.size + 1, 0, none⟩ = some (.int .i64 0) := K2.cell 0
  have z1 : w1.cell? ⟨w.heap.size + 1, 1, none⟩ = some (.slice none 0 0) := K2.cell 1
  have z2 : w1.cell? ⟨w.heap.size + 1, 2, none⟩ = some (.slice none 0 0) := K2.cell 2
  have f0 := K2.free 0
  have f1 := K2.free 1
  have f2 := K2.free 2
  have qa := K2.lt
  clear hb1
  go_wp2
  refine post_cell_tmp (((K2.set 0 _).set 1 _).set 2 _) rfl rfl rfl rfl Try.underlying30 (by kernel_rfl) ⟨none, 0, 0, none, 0, 0, rfl, RdQ.nil _ _ _, RdQ.nil _ _ _, rfl, rfl, Nat.le_refl _, by omega, Nat.le_refl _, by omega, ?_⟩
  exact ((B1.setCell (by simp) _).setCell (by simp) _).setCell (by simp) _
/-- both Makes return the same -/
theorem makes_both (p : Int) (A : Option Addr) (n c : Nat) (ws : List Wk) (hn : n ≤ 9223372036854775807) (hl : ws.length = n) (hs : ∀ x ∈ ws, x.word.size ≤ 9223372036854775807) :
    ∃ t xs ps er, ∀ W : World, RdW W W.heap.size A ws → Calls Try.prog 11 #[.agg #[.int .i64 p, .slice A n c]] W (RetCE t xs ps er W) ∧ Calls Try.prog 12 #[.agg #[.int .i64 p, .slice A n c]] W (RetCE t xs ps er W) := by
  by_cases hE : schk p ws = 0
  · exact ⟨_, _, _, _, fun W hw => ⟨make11 p A n c ws W hn hw hl hE, make12 p A n c ws W hn hw hl hE⟩⟩
  · exact ⟨_, _, _, _, fun W hw => ⟨make11e p A n c ws W hn hw hl hs hE, make12e p A n c ws W hn hw hl hs hE⟩⟩
set_option maxRecDepth 100000 in
set_option maxHeartbeats 1000000 in
theorem far9 (p : Int) (A : Option Addr) (n c : Nat) (ws : List Wk) (w : World) (hn : n ≤ 9223372036854775807) (hw : RdW w w.heap.size A ws) (hl : ws.length = n) (hs : ∀ x ∈ ws, x.word.size ≤ 9223372036854775807) :
    Calls Try.prog 9 #[.agg #[.int .i64 p, .slice A n c]] w fun e w' => GreatR e ∧ Below w.heap.size w w' := by
  have HW := Lib.hid hw; clear hw
  have HL := Lib.hid hl; clear hl
  have HS := Lib.hid hs; clear hs
  have K0 : Has (w.alloc (.cells #[.int .i64 p, .slice A n c] 24)) w.heap.size 24 [.int .i64 p, .slice A n c] := Has.new rfl
  by_cases h1 : (100 < n ∧ n ≤ 400) ∨ 2000 < n
  · have hx : ((100 : Int) < (n : Int) ∧ (n : Int) ≤ 400) ∨ ((2000 : Int) < (n : Int)) := by omega
    clear h1
    rcases hx with ⟨h1, h2⟩ | h1
    · have d1 : decide ((100 : Int) < (n : Int)) = true := decide_eq_true h1
      have d2 : decide ((n : Int) ≤ 400) = true := decide_eq_true h2
      go_enter Try.func9, Try.ntmps9
      go_wp2
      all_goals go_ret
      all_goals exact ⟨GreatR.of rfl, by go_grown⟩
    · have d1 : decide ((100 : Int) < (n : Int)) = true := decide_eq_true (by omega)
      have d2 : decide ((n : Int) ≤ 400) = false := decide_eq_false (by omega)
      have d3 : decide ((2000 : Int) < (n : Int)) = true := decide_eq_true h1
      go_enter Try.func9, Try.ntmps9
      go_wp2
      all_goals go_ret
      all_goals exact ⟨GreatR.of rfl, by go_grown⟩
  · have hx : ¬ ((100 : Int) < (n : Int)) ∨ ((100 : Int) < (n : Int) ∧ ¬ (n : Int) ≤ 400) := by omega
    have d3 : decide ((2000 : Int) < (n : Int)) = false := decide_eq_false (by omega)
    have d0 : (decide ((100 : Int) < (n : Int)) && decide ((n : Int) ≤ 400)) = false := by
      rcases hx with h | ⟨_, h⟩
      · rw [decide_eq_false h]; rfl
      · rw [decide_eq_false h, Bool.and_false]
    rcases hx with hx | ⟨hx, hy⟩
    case inl =>
      have d1 : decide ((100 : Int) < (n : Int)) = false := decide_eq_false hx
      go_enter Try.func9, Try.ntmps9
      go_wp2
      go_loopw [3] (fun i wr => ∃ k : Nat, k ≤ n ∧ i = .int .i64 (k : Int) ∧ wr = w.alloc (.cells #[.int .i64 p, .slice A n c] 24)) (fun i _ => n - (intOf i).toNat)
      case atStart => exact ⟨0, Nat.zero_le _, rfl, rfl⟩
      case round =>
        obtain ⟨k, hk, rfl, hwr⟩ := hrel
        have HB : Has wr w.heap.size 24 [.int .i64 p, .slice A n c] := by rw [hwr]; exact K0
        have B1 : Below w.heap.size w wr := by rw [hwr]; go_grown
        have HWR := Lib.hid hwr
        have a1 : wr.cell? ⟨w.heap.size, 1, none⟩ = some (.slice A n c) := HB.cell 1
        have q := HB.lt
        clear hwr K0
        by_cases hlt : k < n
        · obtain ⟨x, hx⟩ := get_of_lt (l := ws) (k := k) (by rw [HL.out]; exact hlt)
          obtain ⟨ba, o, rfl, hba, c0, c1, c2⟩ := (HW.out.up B1) _ x hx
          have hsx := HS.out x (mem_of_get hx)
          have jn : (k : Int) < (n : Int) := by omega
          clear hx
          by_cases hs1 : 1000 < x.word.size
          · have e1 : decide ((1000 : Int) < (x.word.size : Int)) = true := decide_eq_true (by omega)
            go_wp2
            go_ret
            exact ⟨GreatR.of rfl, B1⟩
          · have e1 : decide ((1000 : Int) < (x.word.size : Int)) = false := decide_eq_false (by omega)
            go_wp2
            go_roundw
            case rel => exact ⟨k + 1, by omega, by go_num, HWR.out⟩
            case measure => first | (simp [intOf]; done) | (simp [intOf]; omega)
        · obtain rfl : n = k := by omega
          go_wp2
          go_ret
          exact ⟨GreatR.of rfl, B1⟩
    case inr =>
      have d1 : decide ((100 : Int) < (n : Int)) = true := decide_eq_true hx
      have d2 : decide ((n : Int) ≤ 400) = false := decide_eq_false hy
      go_enter Try.func9, Try.ntmps9
      go_wp2
      go_loopw [3] (fun i wr => ∃ k : Nat, k ≤ n ∧ i = .int .i64 (k : Int) ∧ wr = w.alloc (.cells #[.int .i64 p, .slice A n c] 24)) (fun i _ => n - (intOf i).toNat)
      case atStart => exact ⟨0, Nat.zero_le _, rfl, rfl⟩
      case round =>
        obtain ⟨k, hk, rfl, hwr⟩ := hrel
        have HB : Has wr w.heap.size 24 [.int .i64 p, .slice A n c] := by rw [hwr]; exact K0
        have B1 : Below w.heap.size w wr := by rw [hwr]; go_grown
        have HWR := Lib.hid hwr
        have a1 : wr.cell? ⟨w.heap.size, 1, none⟩ = some (.slice A n c) := HB.cell 1
        have q := HB.lt
        clear hwr K0
        by_cases hlt : k < n
        · obtain ⟨x, hx⟩ := get_of_lt (l := ws) (k := k) (by rw [HL.out]; exact hlt)
          obtain ⟨ba, o, rfl, hba, c0, c1, c2⟩ := (HW.out.up B1) _ x hx
          have hsx := HS.out x (mem_of_get hx)
          have jn : (k : Int) < (n : Int) := by omega
          clear hx
          by_cases hs1 : 1000 < x.word.size
          · have e1 : decide ((1000 : Int) < (x.word.size : Int)) = true := decide_eq_true (by omega)
            go_wp2
            go_ret
            exact ⟨GreatR.of rfl, B1⟩
          · have e1 : decide ((1000 : Int) < (x.word.size : Int)) = false := decide_eq_false (by omega)
            go_wp2
            go_roundw
            case rel => exact ⟨k + 1, by omega, by go_num, HWR.out⟩
            case measure => first | (simp [intOf]; done) | (simp [intOf]; omega)
        · obtain rfl : n = k := by omega
          go_wp2
          go_ret
          exact ⟨GreatR.of rfl, B1⟩
set_option maxRecDepth 100000 in
set_option maxHeartbeats 2000000 in
theorem makesOf (p : Int) (A : Option Addr) (n c : Nat) (ws : List Wk) (w : World) (hn : n ≤ 9223372036854775807) (hw : RdW w w.heap.size A ws) (hl : ws.length = n) (hs : ∀ x ∈ ws, x.word.size ≤ 9223372036854775807) :
    Calls Try.prog 3 #[.agg #[.int .i64 p, .slice A n c]] w fun e w' => e = .returned (.bool true) ∧ Below w.heap.size w w' := by
  obtain ⟨t, xs, ps, er, hMB⟩ := makes_both p A n c ws hn hl hs
  have HMB := Lib.hid hMB
  have HW := Lib.hid hw
  have CF := Lib.hid (fun (W : World) (hb : Below w.heap.size w W) => far9 p A n c ws W hn (hw.up hb) hl hs)
  have K0 : Has (w.alloc (.cells #[.int .i64 p, .slice A n c] 24)) w.heap.size 24 [.int .i64 p, .slice A n c] := Has.new rfl
  clear hMB hw hl hs
  go_enter Try.func3, Try.ntmps3
  go_wp2_with fail
  refine (CF.out _ (by go_grown)).mono ?_
  rintro e w1 ⟨⟨b, rfl⟩, hb1⟩
  have B1 : Below w.heap.size w w1 := bvia (show Below w.heap.size w _ by go_grown) hb1
  have HB := Lib.hid (K0.below hb1 K0.lt)
  clear K0 hb1 CF
  cases b with
  | true =>
    go_wp2_with fail
    refine (shown10 _).mono ?_
    rintro e w2 ⟨rfl, hb2⟩
    go_wp2
    go_ret
    exact ⟨rfl, bvia B1 hb2⟩
  | false =>
    have a0 : w1.cell? ⟨w.heap.size, 0, none⟩ = some (.int .i64 p) := HB.out.cell 0
    have a1 : w1.cell? ⟨w.heap.size, 1, none⟩ = some (.slice A n c) := HB.out.cell 1
    have q := HB.out.lt
    have C1 := Lib.hid ((HMB.out w1 (HW.out.up B1)).1)
    go_wp2_with fail
    refine C1.out.mono ?_
    rintro e w2 ⟨A2, n2, c2, D2, m2, d2, rfl, x2, p2, ln2, lm2, hc2, hc2', hd2, hd2', hb2⟩
    have HX2 := Lib.hid x2
    have HP2 := Lib.hid p2
    have HL2 := Lib.hid ln2
    have HM2 := Lib.hid lm2
    have B2 := bvia B1 hb2
    have HB2 := Lib.hid (HB.out.below hb2 HB.out.lt)
    clear x2 p2 ln2 lm2 hb2 C1 a0 a1 q HB B1
    obtain ⟨w3, hw3⟩ : ∃ w3, w3 = w2.alloc (.cells #[.int .i64 t, .slice A2 n2 c2, .slice D2 m2 d2] 30) := ⟨_, rfl⟩
    have hb3 : Below w2.heap.size w2 w3 := by rw [hw3]; go_grown
    have K3 : Has w3 w2.heap.size 30 [.int .i64 t, .slice A2 n2 c2, .slice D2 m2 d2] := by rw [hw3]; exact Has.new rfl
    go_upto_region 4 with (fail)
    rw [← hw3]
    obtain ⟨g3, hg3⟩ : ∃ g, g = w2.heap.size := ⟨_, rfl⟩
    rw [← hg3] at K3 ⊢
    have HX3 := Lib.hid (HX2.out.up hb3)
    have HP3 := Lib.hid (HP2.out.up hb3)
    have HB3 := Lib.hid (HB2.out.below hb3 HB2.out.lt)
    have B3 := bvia B2 hb3
    have HK3 := Lib.hid K3
    clear hw3 hb3 hg3 K3 HX2 HP2 HB2 B2
    have a0 : w3.cell? ⟨w.heap.size, 0, none⟩ = some (.int .i64 p) := HB3.out.cell 0
    have a1 : w3.cell? ⟨w.heap.size, 1, none⟩ = some (.slice A n c) := HB3.out.cell 1
    have q := HB3.out.lt
    have C2 := Lib.hid ((HMB.out w3 (HW.out.up B3)).2)
    go_wp2_with fail
    refine C2.out.mono ?_
    rintro e w4 ⟨A4, n4, c4, D4, m4, d4, rfl, x4, p4, ln4, lm4, _, _, _, _, hb4⟩
    obtain rfl : n4 = n2 := by rw [← ln4, HL2.out]
    obtain rfl : m4 = m2 := by rw [← lm4, HM2.out]
    have HX4 := Lib.hid (HX3.out.up hb4)
    have HP4 := Lib.hid (HP3.out.up hb4)
    have HY4 := Lib.hid x4
    have HQ4 := Lib.hid p4
    have HK4 := Lib.hid (HK3.out.below hb4 HK3.out.lt)
    have B4 := bvia B3 hb4
    clear x4 p4 ln4 lm4 hb4 C2 a0 a1 q HB3 HK3 HX3 HP3 B3
    obtain ⟨w5, hw5⟩ : ∃ w5, w5 = w4.alloc (.cells #[.int .i64 t, .slice A4 n4 c4, .slice D4 m4 d4] 30) := ⟨_, rfl⟩
    have hb5 : Below w4.heap.size w4 w5 := by rw [hw5]; go_grown
    have K5 : Has w5 w4.heap.size 30 [.int .i64 t, .slice A4 n4 c4, .slice D4 m4 d4] := by rw [hw5]; exact Has.new rfl
    go_upto_region 5 with (fail)
    rw [← hw5]
    obtain ⟨g5, hg5⟩ : ∃ g, g = w4.heap.size := ⟨_, rfl⟩
    rw [← hg5] at K5 ⊢
    have HX5 := Lib.hid (HX4.out.up hb5)
    have HP5 := Lib.hid (HP4.out.up hb5)
    have HY5 := Lib.hid (HY4.out.up hb5)
    have HQ5 := Lib.hid (HQ4.out.up hb5)
    have HK5 := HK4.out.below hb5 HK4.out.lt
    have B5 := bvia B4 hb5
    clear hw5 hb5 hg5 HX4 HP4 HY4 HQ4 HK4 B4
    have k0 : w5.cell? ⟨g3, 0, none⟩ = some (.int .i64 t) := HK5.cell 0
    have k1 : w5.cell? ⟨g3, 1, none⟩ = some (.slice A2 n4 c2) := HK5.cell 1
    have k2 : w5.cell? ⟨g3, 2, none⟩ = some (.slice D2 m4 d2) := HK5.cell 2
    have m0 : w5.cell? ⟨g5, 0, none⟩ = some (.int .i64 t) := K5.cell 0
    have m1 : w5.cell? ⟨g5, 1, none⟩ = some (.slice A4 n4 c4) := K5.cell 1
    have m2 : w5.cell? ⟨g5, 2, none⟩ = some (.slice D4 m4 d4) := K5.cell 2
    have q3 := HK5.lt
    have q5 := K5.lt
    have e0 : (er == er) = true := by simp
    go_wp2_with fail
    refine (same13 t A2 D2 A4 D4 n4 c2 m4 d2 c4 d4 xs ps w5 (by omega) (by omega) HX5.out HY5.out HP5.out HQ5.out HL2.out HM2.out).mono ?_
    rintro e w6 ⟨rfl, hb6⟩
    have B6 := bvia B5 hb6
    clear k0 k1 k2 m0 m1 m2 q3 q5 hb6 HK5 K5
    go_wp2_with fail
    refine (shown10 _).mono ?_
    rintro e w7 ⟨rfl, hb7⟩
    go_wp2
    go_ret
    exact ⟨rfl, bvia B6 hb7⟩
end Go.Proofs.Ytpljaoagiaijiaa
