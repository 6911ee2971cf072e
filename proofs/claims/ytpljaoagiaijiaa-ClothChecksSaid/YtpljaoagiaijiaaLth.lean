/-
  Walk of the law ClothThreads, given what the law's shown says.
-/
import Derived.Test.YtpljaoagiaijiaaGat
import Derived.Test.YtpljaoagiaijiaaSm
namespace Go.Proofs.Ytpljaoagiaijiaa
open Go.RowKit
/-- what the law's shown says -/
def ShownSays : Prop := ∀ w : World, Calls Try.prog 10 #[] w fun e w' => e = .returned (.bool true) ∧ Below w.heap.size w w'
def GreatR (e : Ending) : Prop := ∃ b : Bool, e = .returned (.bool b)
theorem GreatR.of {v : Value} {b : Bool} (h : v = .bool b) : GreatR (.returned v) := ⟨b, by rw [h]⟩
set_option maxRecDepth 100000 in
set_option maxHeartbeats 1000000 in
theorem great22 (t : Int) (A B : Option Addr) (n c m d : Nat) (w : World) :
    Calls Try.prog 22 #[vCloth t A n c B m d] w fun e w' => GreatR e ∧ Below w.heap.size w w' := by
  go_enter Try.func22, Try.ntmps22
  go_wp2
  all_goals go_ret
  all_goals exact ⟨GreatR.of rfl, by go_grown⟩
def RdG (w : World) (B : Nat) (A : Option Addr) (xs : List Gt) : Prop :=
  ∀ (k : Nat) (x : Gt), xs[k]? = some x → ∃ b o, A = some ⟨b, o, none⟩ ∧ b < B ∧ w.cell? ⟨b, o + k*2, none⟩ = some (.int .i64 x.w) ∧ w.cell? ⟨b, o + k*2+1, none⟩ = some (.int .i64 x.s)
theorem RdG.up {w w' : World} {A : Option Addr} {xs : List Gt} (h : RdG w w.heap.size A xs) (hb : Below w.heap.size w w') : RdG w' w'.heap.size A xs := fun k x hx => by
  obtain ⟨b, o, h1, h2, h3, h4⟩ := h k x hx
  exact ⟨b, o, h1, Nat.lt_of_lt_of_le h2 hb.size, (hb.cell h2).trans h3, (hb.cell h2).trans h4⟩
theorem gtsCells_get {x : Gt} : ∀ {ys : List Gt} {k : Nat}, ys[k]? = some x → (gtsCells ys)[k * 2]? = some (.int .i64 x.w) ∧ (gtsCells ys)[k * 2 + 1]? = some (.int .i64 x.s)
  | [], k, h => by simp at h
  | y :: ys, 0, h => by simp at h; subst h; simp [gtsCells, gtCells]
  | y :: ys, k + 1, h => by
    have := gtsCells_get (ys := ys) (k := k) (by simpa using h)
    simp only [gtsCells, List.flatMap_cons, Nat.succ_mul] at *
    simp only [gtCells, List.cons_append, List.nil_append] at *
    exact this
theorem own_rdG {w : World} {base : Nat} {e : TypeId} {n c : Nat} {A : Option Addr} {ws : List Gt} (h : w.ownsRow base e 2 (.slice A n c) n (gtsCells ws)) : RdG w w.heap.size A ws := fun k x hx => by
  obtain ⟨e0, e1⟩ := gtsCells_get hx
  obtain ⟨g, h1, _, h3, h4⟩ := own_at h e0
  obtain ⟨g', h1', _, _, h4'⟩ := own_at h e1
  rw [h1] at h1'; injection h1' with h1'; injection h1' with h1'; subst h1'
  refine ⟨g, 0, h1, h3, ?_, ?_⟩ <;> rw [Nat.zero_add] <;> assumption
theorem eqGt (a b : Int) (w : World) : (Op.equalIn 10000 62 (.agg #[.int .i64 a, .int .i64 b]) (.agg #[.int .i64 a, .int .i64 b])).run Try.prog w = .ok true w := by
  have u3 := Try.underlying3
  have a3 := Try.isAgg3
  have z3 := Try.sizeOf3
  have hS : Try.prog.underlying 62 = some (.struct (Try.prog.fieldsOf 62)) := by kernel_rfl
  have hp : Try.prog.stoodInHeld 62 = false := by kernel_rfl
  rw [show (10000 : Nat) = 9999 + 1 from rfl, run_equalIn_agg w 9999 62 _ _ hS hp]
  simp only [Program.fieldsOf, Try.underlying62]
  go_simp
set_option maxRecDepth 100000 in
set_option maxHeartbeats 8000000 in
theorem threadsOf (hs : ShownSays) (t : Int) (A B : Option Addr) (n c m d : Nat) (a b : Int) (xs ps : List Q4) (w : World) (hn : n ≤ 9223372036854775807) (hm : m ≤ 9223372036854775807) (hx : RdQ w w.heap.size A xs) (hp : RdQ w w.heap.size B ps)
    (hl : xs.length = n) (hl' : ps.length = m) (ht0 : -9223372036854775808 ≤ t) :
    Calls Try.prog 6 #[vCloth t A n c B m d, .int .i64 a, .int .i64 b] w fun e w' => e = .returned (.bool true) ∧ Below w.heap.size w w' := by
  have SS := Lib.hid hs; clear hs
  have C1 := Lib.hid (fun (W : World) (hb : Below w.heap.size w W) => follow23 t A B n c m d a xs ps W hn hm (hx.up hb) (hp.up hb) hl hl' ht0)
  have C2 := Lib.hid (fun (W : World) (hb : Below w.heap.size w W) => follow24 t A B n c m d a xs ps W hn hm (hx.up hb) (hp.up hb) hl hl' ht0)
  have C3 := Lib.hid (fun (W : World) (hb : Below w.heap.size w W) => meet21 t A B n c m d a b xs ps W hn hm (hx.up hb) (hp.up hb) hl hl' ht0)
  have C4 := Lib.hid (fun (W : World) (hb : Below w.heap.size w W) => meet25 t A B n c m d a b xs ps W hn hm (hx.up hb) (hp.up hb) hl hl' ht0)
  have C5 := Lib.hid (fun (W : World) (hb : Below w.heap.size w W) => gates26 t A B n c m d a xs ps W hn hm (hx.up hb) (hp.up hb) hl hl' ht0)
  have C6 := Lib.hid (fun (W : World) (hb : Below w.heap.size w W) => gates27 t A B n c m d a xs ps W hn hm (hx.up hb) (hp.up hb) hl hl' ht0)
  clear hx hp
  generalize askE t xs ps [a] = r1 at *
  generalize askE t xs ps [a, b] = r2 at *
  generalize ofR t xs ps [a] = L1 at *
  generalize ofR t xs ps [a, b] = L2 at *
  generalize gatesR t xs ps a = G at *
  have K0 : Has (w.alloc (.cells #[.int .i64 t, .slice A n c, .slice B m d] 30)) w.heap.size 30 [.int .i64 t, .slice A n c, .slice B m d] := Has.new rfl
  have B0 : Below w.heap.size w (w.alloc (.cells #[.int .i64 t, .slice A n c, .slice B m d] 30)) := by go_grown
  have CG := Lib.hid (great22 t A B n c m d (w.alloc (.cells #[.int .i64 t, .slice A n c, .slice B m d] 30)))
  go_enter Try.func6, Try.ntmps6
  go_wp2_with fail
  refine CG.out.mono ?_
  rintro e w1 ⟨⟨bb, rfl⟩, hb1⟩
  have B1 := bvia B0 hb1
  have HB := Lib.hid (K0.below hb1 K0.lt)
  clear K0 hb1 CG B0
  cases bb with
  | true =>
    go_wp2_with fail
    refine (SS.out _).mono ?_
    rintro e w2 ⟨rfl, hb2⟩
    go_wp2
    go_ret
    exact ⟨rfl, bvia B1 hb2⟩
  | false =>
    have a0 : w1.cell? ⟨w.heap.size, 0, none⟩ = some (.int .i64 t) := HB.out.cell 0
    have a1 : w1.cell? ⟨w.heap.size, 1, none⟩ = some (.slice A n c) := HB.out.cell 1
    have a2 : w1.cell? ⟨w.heap.size, 2, none⟩ = some (.slice B m d) := HB.out.cell 2
    have q := HB.out.lt
    go_wp2_with fail
    refine (C1.out _ B1).mono ?_
    rintro e w2 ⟨A2, n2, c2, rfl, r2, l2, k2, k2', hb2⟩
    have B2 := bvia B1 hb2
    replace HB := Lib.hid (HB.out.below hb2 HB.out.lt)
    clear hb2 a0 a1 a2 q
    have HA := Lib.hid r2; clear r2
    have HAl := Lib.hid l2; clear l2
    have HAk : n2 ≤ 9223372036854775807 := Nat.le_trans k2 k2'
    clear k2 k2'
    have a0 : w2.cell? ⟨w.heap.size, 0, none⟩ = some (.int .i64 t) := HB.out.cell 0
    have a1 : w2.cell? ⟨w.heap.size, 1, none⟩ = some (.slice A n c) := HB.out.cell 1
    have a2 : w2.cell? ⟨w.heap.size, 2, none⟩ = some (.slice B m d) := HB.out.cell 2
    have q := HB.out.lt
    go_wp2_with fail
    refine (C2.out _ B2).mono ?_
    rintro e w3 ⟨A3, n3, c3, rfl, r3, l3, k3, k3', hb3⟩
    have B3 := bvia B2 hb3
    replace HB := Lib.hid (HB.out.below hb3 HB.out.lt)
    replace HA := Lib.hid (HA.out.up hb3)
    clear hb3 a0 a1 a2 q
    have HC := Lib.hid r3; clear r3
    have HCl := Lib.hid l3; clear l3
    have HCk : n3 ≤ 9223372036854775807 := Nat.le_trans k3 k3'
    clear k3 k3'
    have a0 : w3.cell? ⟨w.heap.size, 0, none⟩ = some (.int .i64 t) := HB.out.cell 0
    have a1 : w3.cell? ⟨w.heap.size, 1, none⟩ = some (.slice A n c) := HB.out.cell 1
    have a2 : w3.cell? ⟨w.heap.size, 2, none⟩ = some (.slice B m d) := HB.out.cell 2
    have q := HB.out.lt
    go_wp2_with fail
    refine (C3.out _ B3).mono ?_
    rintro e w4 ⟨A4, n4, c4, rfl, r4, l4, k4, k4', hb4⟩
    have B4 := bvia B3 hb4
    replace HB := Lib.hid (HB.out.below hb4 HB.out.lt)
    replace HA := Lib.hid (HA.out.up hb4)
    replace HC := Lib.hid (HC.out.up hb4)
    clear hb4 a0 a1 a2 q
    have HD := Lib.hid r4; clear r4
    have HDl := Lib.hid l4; clear l4
    have HDk : n4 ≤ 9223372036854775807 := Nat.le_trans k4 k4'
    clear k4 k4'
    have a0 : w4.cell? ⟨w.heap.size, 0, none⟩ = some (.int .i64 t) := HB.out.cell 0
    have a1 : w4.cell? ⟨w.heap.size, 1, none⟩ = some (.slice A n c) := HB.out.cell 1
    have a2 : w4.cell? ⟨w.heap.size, 2, none⟩ = some (.slice B m d) := HB.out.cell 2
    have q := HB.out.lt
    go_wp2_with fail
    refine (C4.out _ B4).mono ?_
    rintro e w5 ⟨A5, n5, c5, rfl, r5, l5, k5, k5', hb5⟩
    have B5 := bvia B4 hb5
    replace HB := Lib.hid (HB.out.below hb5 HB.out.lt)
    replace HA := Lib.hid (HA.out.up hb5)
    replace HC := Lib.hid (HC.out.up hb5)
    replace HD := Lib.hid (HD.out.up hb5)
    clear hb5 a0 a1 a2 q
    have HE := Lib.hid r5; clear r5
    have HEl := Lib.hid l5; clear l5
    have HEk : n5 ≤ 9223372036854775807 := Nat.le_trans k5 k5'
    clear k5 k5'
    have a0 : w5.cell? ⟨w.heap.size, 0, none⟩ = some (.int .i64 t) := HB.out.cell 0
    have a1 : w5.cell? ⟨w.heap.size, 1, none⟩ = some (.slice A n c) := HB.out.cell 1
    have a2 : w5.cell? ⟨w.heap.size, 2, none⟩ = some (.slice B m d) := HB.out.cell 2
    have q := HB.out.lt
    go_wp2_with fail
    refine (C5.out _ B5).mono ?_
    rintro e w6 ⟨A6, n6, c6, rfl, r6, l6, hb6⟩
    have o6 := own_caps r6
    have B6 := bvia B5 hb6
    replace HB := Lib.hid (HB.out.below hb6 HB.out.lt)
    replace HA := Lib.hid (HA.out.up hb6)
    replace HC := Lib.hid (HC.out.up hb6)
    replace HD := Lib.hid (HD.out.up hb6)
    replace HE := Lib.hid (HE.out.up hb6)
    clear hb6 a0 a1 a2 q
    have HG := Lib.hid (own_rdG r6); clear r6
    have HGl := Lib.hid l6; clear l6
    have HGk : n6 ≤ 9223372036854775807 := Nat.le_trans o6.1 o6.2
    clear o6
    have a0 : w6.cell? ⟨w.heap.size, 0, none⟩ = some (.int .i64 t) := HB.out.cell 0
    have a1 : w6.cell? ⟨w.heap.size, 1, none⟩ = some (.slice A n c) := HB.out.cell 1
    have a2 : w6.cell? ⟨w.heap.size, 2, none⟩ = some (.slice B m d) := HB.out.cell 2
    have q := HB.out.lt
    go_wp2_with fail
    refine (C6.out _ B6).mono ?_
    rintro e w7 ⟨A7, n7, c7, rfl, r7, l7, hb7⟩
    have o7 := own_caps r7
    replace HG := Lib.hid (RdG.up HG.out hb7)
    have B7 := bvia B6 hb7
    replace HB := Lib.hid (HB.out.below hb7 HB.out.lt)
    replace HA := Lib.hid (HA.out.up hb7)
    replace HC := Lib.hid (HC.out.up hb7)
    replace HD := Lib.hid (HD.out.up hb7)
    replace HE := Lib.hid (HE.out.up hb7)
    clear hb7 a0 a1 a2 q
    have HH := Lib.hid (own_rdG r7); clear r7
    have HHl := Lib.hid l7; clear l7
    have HHk : n7 ≤ 9223372036854775807 := Nat.le_trans o7.1 o7.2
    clear o7
    obtain rfl : n6 = n7 := by rw [← HGl.out, ← HHl.out]
    have J1 := Lib.hid (sameInts04 A2 A3 n2 n3 c2 c3 _ _ w7 HAk HCk HA.out HC.out HAl.out HCl.out)
    simp only [beq_self_eq_true] at J1
    have a0 : w7.cell? ⟨w.heap.size, 0, none⟩ = some (.int .i64 t) := HB.out.cell 0
    have a1 : w7.cell? ⟨w.heap.size, 1, none⟩ = some (.slice A n c) := HB.out.cell 1
    have a2 : w7.cell? ⟨w.heap.size, 2, none⟩ = some (.slice B m d) := HB.out.cell 2
    have q := HB.out.lt
    go_wp2_with fail
    refine (J1.out).mono ?_
    rintro e w8 ⟨rfl, hb8⟩
    replace HG := Lib.hid (RdG.up HG.out hb8)
    replace HH := Lib.hid (RdG.up HH.out hb8)
    have B8 := bvia B7 hb8
    replace HB := Lib.hid (HB.out.below hb8 HB.out.lt)
    replace HA := Lib.hid (HA.out.up hb8)
    replace HC := Lib.hid (HC.out.up hb8)
    replace HD := Lib.hid (HD.out.up hb8)
    replace HE := Lib.hid (HE.out.up hb8)
    clear hb8 a0 a1 a2 q
    clear J1
    have J2 := Lib.hid (sameInts04 A4 A5 n4 n5 c4 c5 _ _ w8 HDk HEk HD.out HE.out HDl.out HEl.out)
    simp only [beq_self_eq_true] at J2
    have a0 : w8.cell? ⟨w.heap.size, 0, none⟩ = some (.int .i64 t) := HB.out.cell 0
    have a1 : w8.cell? ⟨w.heap.size, 1, none⟩ = some (.slice A n c) := HB.out.cell 1
    have a2 : w8.cell? ⟨w.heap.size, 2, none⟩ = some (.slice B m d) := HB.out.cell 2
    have q := HB.out.lt
    go_wp2_with fail
    refine (J2.out).mono ?_
    rintro e w9 ⟨rfl, hb9⟩
    replace HG := Lib.hid (RdG.up HG.out hb9)
    replace HH := Lib.hid (RdG.up HH.out hb9)
    have B9 := bvia B8 hb9
    replace HB := Lib.hid (HB.out.below hb9 HB.out.lt)
    replace HA := Lib.hid (HA.out.up hb9)
    replace HC := Lib.hid (HC.out.up hb9)
    replace HD := Lib.hid (HD.out.up hb9)
    replace HE := Lib.hid (HE.out.up hb9)
    clear hb9 a0 a1 a2 q
    clear J2
    clear HA HC HD HE HAl HCl HDl HEl C1 C2 C3 C4 C5 C6
    go_wp2
    go_loopw [19] (fun i wr => ∃ j : Nat, j ≤ n6 ∧ i = .int .i64 (j : Int) ∧ Below w9.heap.size w9 wr) (fun i _ => n6 - (intOf i).toNat)
    case atStart => exact ⟨0, Nat.zero_le _, rfl, Below.refl _ _⟩
    case round =>
      obtain ⟨j, hj, rfl, hb⟩ := hrel
      obtain ⟨wo, rfl⟩ : ∃ wo : World, wo = wr := ⟨_, rfl⟩
      have hz := hb.size
      by_cases hlt : j < n6
      · obtain ⟨x, hx⟩ := get_of_lt (l := G) (k := j) (by rw [HGl.out]; exact hlt)
        obtain ⟨bu, ou, rfl, hbu, u0, u1⟩ := HG.out _ x hx
        obtain ⟨bv, ov, rfl, hbv, v0, v1⟩ := HH.out _ x hx
        have x0 := (hb.cell (p := ⟨bu, ou + j * 2, none⟩) hbu).trans u0
        have x1 := (hb.cell (p := ⟨bu, ou + j * 2 + 1, none⟩) hbu).trans u1
        have y0 := (hb.cell (p := ⟨bv, ov + j * 2, none⟩) hbv).trans v0
        have y1 := (hb.cell (p := ⟨bv, ov + j * 2 + 1, none⟩) hbv).trans v1
        have zu : bu < wo.heap.size := by omega
        have zv : bv < wo.heap.size := by omega
        have jn : (j : Int) < (n6 : Int) := by omega
        have EQ := fun W => eqGt x.w x.s W
        clear hx u0 u1 v0 v1
        have HJ := Lib.hid hlt
        go_wp2
        have hxc := fun (x : Ext wo) => x.cell
        refine wp_region_ext (by kernel_rfl) (by kernel_rfl) ?_
        repeat (go_big_quiet_step (fail))
        refine wpQuiet_nil ?_
        intro w6 hw'
        have hb6 := ext_below hw'; clear hw' hxc
        have B6 := hb.trans (hb6.mono hz)
        clear hb6
        go_wp2
        go_roundw
        case rel => exact ⟨j + 1, (by have := HJ.out; omega), by go_num, B6⟩
        case measure => (have := HJ.out; first | (simp [intOf]; done) | (simp [intOf]; omega))
      · obtain rfl : n6 = j := by omega
        have B10 := bvia B9 hb
        go_wp2_with fail
        refine (SS.out _).mono ?_
        rintro e w11 ⟨rfl, hb11⟩
        go_wp2
        go_ret
        exact ⟨rfl, bvia B10 hb11⟩
end Go.Proofs.Ytpljaoagiaijiaa
