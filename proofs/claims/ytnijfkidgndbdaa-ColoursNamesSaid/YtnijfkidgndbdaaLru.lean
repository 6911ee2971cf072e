/-
  Walk of the law ColoursRuns.
-/
import Derived.Test.YtnijfkidgndbdaaRun2
namespace Go.Proofs.Ytnijfkidgndbdaa
open Go.RowKit
def RdR (w : World) (B : Nat) (A : Option Addr) (xs : List Rn) : Prop :=
  ∀ (k : Nat) (x : Rn), xs[k]? = some x → ∃ b o, A = some ⟨b, o, none⟩ ∧ b < B ∧
    w.cell? ⟨b, o + k*3, none⟩ = some (.int .i64 x.c) ∧ w.cell? ⟨b, o + k*3+1, none⟩ = some (.int .i64 x.f) ∧ w.cell? ⟨b, o + k*3+2, none⟩ = some (.int .i64 x.m)
theorem RdR.up {w w' : World} {A : Option Addr} {xs : List Rn} (h : RdR w w.heap.size A xs) (hb : Below w.heap.size w w') : RdR w' w'.heap.size A xs := fun k x hx => by
  obtain ⟨b, o, h1, h2, h3, h4, h5⟩ := h k x hx
  exact ⟨b, o, h1, Nat.lt_of_lt_of_le h2 hb.size, (hb.cell h2).trans h3, (hb.cell h2).trans h4, (hb.cell h2).trans h5⟩
theorem rnsCells_get {x : Rn} : ∀ {ys : List Rn} {k : Nat}, ys[k]? = some x → (rnsCells ys)[k * 3]? = some (.int .i64 x.c) ∧ (rnsCells ys)[k * 3 + 1]? = some (.int .i64 x.f) ∧ (rnsCells ys)[k * 3 + 2]? = some (.int .i64 x.m)
  | [], k, h => by simp at h
  | y :: ys, 0, h => by simp at h; subst h; simp [rnsCells, rnCells]
  | y :: ys, k + 1, h => by
    have := rnsCells_get (ys := ys) (k := k) (by simpa using h)
    simp only [rnsCells, List.flatMap_cons, Nat.succ_mul] at *
    simp only [rnCells, List.cons_append, List.nil_append] at *
    exact this
theorem own_rdR {w : World} {base : Nat} {e : TypeId} {n c : Nat} {A : Option Addr} {ws : List Rn} (h : w.ownsRow base e 3 (.slice A n c) n (rnsCells ws)) : RdR w w.heap.size A ws := fun k x hx => by
  obtain ⟨e0, e1, e2⟩ := rnsCells_get hx
  obtain ⟨g, h1, _, h3, h4⟩ := own_at h e0
  obtain ⟨g', h1', _, _, h4'⟩ := own_at h e1
  rw [h1] at h1'; injection h1' with h1'; injection h1' with h1'; subst h1'
  obtain ⟨g', h1', _, _, h5'⟩ := own_at h e2
  rw [h1] at h1'; injection h1' with h1'; injection h1' with h1'; subst h1'
  refine ⟨g, 0, h1, h3, ?_, ?_, ?_⟩ <;> rw [Nat.zero_add] <;> assumption
theorem eqRn (a b c : Int) (w : World) : (Op.equalIn 10000 43 (.agg #[.int .i64 a, .int .i64 b, .int .i64 c]) (.agg #[.int .i64 a, .int .i64 b, .int .i64 c])).run Try.prog w = .ok true w := by
  have u3 := Try.underlying3
  have a3 := Try.isAgg3
  have z3 := Try.sizeOf3
  have hS : Try.prog.underlying 43 = some (.struct (Try.prog.fieldsOf 43)) := by kernel_rfl
  have hp : Try.prog.stoodInHeld 43 = false := by kernel_rfl
  rw [show (10000 : Nat) = 9999 + 1 from rfl, run_equalIn_agg w 9999 43 _ _ hS hp]
  simp only [Program.fieldsOf, Try.underlying43]
  go_simp
set_option maxRecDepth 100000 in
set_option maxHeartbeats 8000000 in
theorem runsOf (t : Int) (A B D : Option Addr) (n c m d k e : Nat) (E : Option Addr) (k2 e2 : Nat) (xs ps : List Q4) (ds es : List Int) (w : World) (hn : n ≤ 9223372036854775807) (hm : m ≤ 9223372036854775807) (hk : k ≤ 9223372036854775807) (hx : RdQ w w.heap.size A xs) (hp : RdQ w w.heap.size B ps) (hd : RdI w w.heap.size D ds)
    (hl : xs.length = n) (hl' : ps.length = m) (hlk : ds.length = k) (ht0 : -9223372036854775808 ≤ t) (_ : n ≤ c) (hk2 : k2 ≤ 9223372036854775807) (he : RdI w w.heap.size E es) (hle : es.length = k2) :
    Calls Try.prog 7 #[vCloth t A n c B m d, .slice D k e, .slice E k2 e2] w fun e w' => e = .returned (.bool true) ∧ Below w.heap.size w w' := by
  have HE := Lib.hid he; clear he
  have HX := Lib.hid hx; clear hx
  have HP := Lib.hid hp; clear hp
  have HD := Lib.hid hd; clear hd
  have C1 := Lib.hid (fun (W : World) (hb : Below w.heap.size w W) => plain25 t A B D n c m d k e xs ps ds W hn hm hk (HX.out.up hb) (HP.out.up hb) (HD.out.up hb) hl hl' hlk ht0)
  have C2 := Lib.hid (fun (W : World) (hb : Below w.heap.size w W) => plain26 t A B D n c m d k e xs ps ds W hn hm hk (HX.out.up hb) (HP.out.up hb) (HD.out.up hb) hl hl' hlk ht0)
  have C3 := Lib.hid (fun (W : World) (hb : Below w.heap.size w W) => runs27 t A B D n c m d k e xs ps ds W hn hm hk (HX.out.up hb) (HP.out.up hb) (HD.out.up hb) hl hl' hlk ht0)
  have C4 := Lib.hid (fun (W : World) (hb : Below w.heap.size w W) => runs28 t A B D n c m d k e xs ps ds W hn hm hk (HX.out.up hb) (HP.out.up hb) (HD.out.up hb) hl hl' hlk ht0)
  have C5 := Lib.hid (fun (W : World) (hb : Below w.heap.size w W) => same29 t A B D E n c m d k e k2 e2 xs ps ds es W hn hm hk hk2 (HX.out.up hb) (HP.out.up hb) (HD.out.up hb) (HE.out.up hb) hl hl' hlk hle ht0)
  have C6 := Lib.hid (fun (W : World) (hb : Below w.heap.size w W) => same30 t A B D E n c m d k e k2 e2 xs ps ds es W hn hm hk hk2 (HX.out.up hb) (HP.out.up hb) (HD.out.up hb) (HE.out.up hb) hl hl' hlk hle ht0)
  have K0 : Has (w.alloc (.cells #[.int .i64 t, .slice A n c, .slice B m d] 25)) w.heap.size 25 [.int .i64 t, .slice A n c, .slice B m d] := Has.new rfl
  have B0 : Below w.heap.size w (w.alloc (.cells #[.int .i64 t, .slice A n c, .slice B m d] 25)) := by go_grown
  by_cases hfar : farB t n m = true
  · have CF := Lib.hid (far12 t A B n c m d (w.alloc (.cells #[.int .i64 t, .slice A n c, .slice B m d] 25)))
    rw [hfar] at CF
    go_enter Try.func7, Try.ntmps7
    go_wp2_with fail
    refine CF.out.mono ?_
    rintro e w1 ⟨rfl, hb1⟩
    have B1 := bvia B0 hb1
    go_wp2_with fail
    refine (shown13 _).mono ?_
    rintro e w2 ⟨rfl, hb2⟩
    go_wp2
    go_ret
    exact ⟨rfl, bvia B1 hb2⟩
  have CF := Lib.hid (far12 t A B n c m d (w.alloc (.cells #[.int .i64 t, .slice A n c, .slice B m d] 25)))
  rw [show farB t n m = false by simpa using hfar] at CF
  by_cases hlim : (100 : Int) < (k : Int)
  · have dl : decide ((100 : Int) < (k : Int)) = true := decide_eq_true hlim
    clear hlim
    go_enter Try.func7, Try.ntmps7
    go_wp2_with fail
    refine CF.out.mono ?_
    rintro e w1 ⟨rfl, hb1⟩
    have B1 := bvia B0 hb1
    go_wp2_with fail
    refine (shown13 _).mono ?_
    rintro e w2 ⟨rfl, hb2⟩
    go_wp2
    go_ret
    exact ⟨rfl, bvia B1 hb2⟩
  have dl : decide ((100 : Int) < (k : Int)) = false := decide_eq_false hlim
  clear hlim hfar
  by_cases hlim2 : (100 : Int) < (k2 : Int)
  · have dl2 : decide ((100 : Int) < (k2 : Int)) = true := decide_eq_true hlim2
    clear hlim2
    go_enter Try.func7, Try.ntmps7
    go_wp2_with fail
    refine CF.out.mono ?_
    rintro e w1 ⟨rfl, hb1⟩
    have B1 := bvia B0 hb1
    have HB := Lib.hid (K0.below hb1 K0.lt)
    clear K0 hb1 CF B0
    have a0 : w1.cell? ⟨w.heap.size, 0, none⟩ = some (.int .i64 t) := HB.out.cell 0
    have a1 : w1.cell? ⟨w.heap.size, 1, none⟩ = some (.slice A n c) := HB.out.cell 1
    have a2 : w1.cell? ⟨w.heap.size, 2, none⟩ = some (.slice B m d) := HB.out.cell 2
    have q := HB.out.lt
    go_wp2_with fail
    refine (shown13 _).mono ?_
    rintro e w2 ⟨rfl, hb2⟩
    go_wp2
    go_ret
    exact ⟨rfl, bvia B1 hb2⟩
  have dl2 : decide ((100 : Int) < (k2 : Int)) = false := decide_eq_false hlim2
  clear hlim2
  have HN : Hid (chkE t xs ps ds = 0 → n ≤ 20000) := fun h => by
    have h1 := (ckE_ok (chkE_ok h).1).2.2.1
    rw [hl] at h1; exact h1
  have HRL : Hid ((runsR t xs ps ds).length ≤ 20000) := by
    show (runsR t xs ps ds).length ≤ 20000
    unfold runsR
    split
    · rename_i h
      have h1 := runsTo_len (overL xs ds) xs.length
      have h2 := HN.out h
      omega
    · simp
  go_enter Try.func7, Try.ntmps7
  go_wp2_with fail
  refine CF.out.mono ?_
  rintro e w1 ⟨rfl, hb1⟩
  have B1 := bvia B0 hb1
  have HB := Lib.hid (K0.below hb1 K0.lt)
  clear K0 hb1 CF B0
  have a0 : w1.cell? ⟨w.heap.size, 0, none⟩ = some (.int .i64 t) := HB.out.cell 0
  have a1 : w1.cell? ⟨w.heap.size, 1, none⟩ = some (.slice A n c) := HB.out.cell 1
  have a2 : w1.cell? ⟨w.heap.size, 2, none⟩ = some (.slice B m d) := HB.out.cell 2
  have q := HB.out.lt
  go_wp2_with fail
  refine (C1.out _ B1).mono ?_
  rintro e w2 ⟨A2, n2, c2, rfl, r2, l2, k2, k2', hb2⟩
  have B2 := bvia B1 hb2
  replace HB := Lib.hid (HB.out.below hb2 HB.out.lt)
  clear hb2 a0 a1 a2 q
  have HS := Lib.hid r2; clear r2
  have HSl := Lib.hid l2; clear l2
  have HSk : n2 ≤ 9223372036854775807 := Nat.le_trans k2 k2'
  clear k2 k2'
  have a0 : w2.cell? ⟨w.heap.size, 0, none⟩ = some (.int .i64 t) := HB.out.cell 0
  have a1 : w2.cell? ⟨w.heap.size, 1, none⟩ = some (.slice A n c) := HB.out.cell 1
  have a2 : w2.cell? ⟨w.heap.size, 2, none⟩ = some (.slice B m d) := HB.out.cell 2
  have q := HB.out.lt
  go_wp2_with fail
  refine (C2.out _ B2).mono ?_
  rintro e w3 ⟨A3, n3, c3, rfl, r3, l3, k3, k3', hb3⟩
  have B3 := bvia B2 hb3
  replace HB := Lib.hid (HB.out.below hb3 HB.out.lt)
  replace HS := Lib.hid (HS.out.up hb3)
  clear hb3 a0 a1 a2 q
  have HT := Lib.hid r3; clear r3
  have HTl := Lib.hid l3; clear l3
  have HTk : n3 ≤ 9223372036854775807 := Nat.le_trans k3 k3'
  clear k3 k3'
  have a0 : w3.cell? ⟨w.heap.size, 0, none⟩ = some (.int .i64 t) := HB.out.cell 0
  have a1 : w3.cell? ⟨w.heap.size, 1, none⟩ = some (.slice A n c) := HB.out.cell 1
  have a2 : w3.cell? ⟨w.heap.size, 2, none⟩ = some (.slice B m d) := HB.out.cell 2
  have q := HB.out.lt
  go_wp2_with fail
  refine (C3.out _ B3).mono ?_
  rintro e w4 ⟨A4, n4, c4, rfl, r4, l4, hb4⟩
  have B4 := bvia B3 hb4
  replace HB := Lib.hid (HB.out.below hb4 HB.out.lt)
  replace HS := Lib.hid (HS.out.up hb4)
  replace HT := Lib.hid (HT.out.up hb4)
  clear hb4 a0 a1 a2 q
  have HU := Lib.hid (own_rdR r4); clear r4
  have a0 : w4.cell? ⟨w.heap.size, 0, none⟩ = some (.int .i64 t) := HB.out.cell 0
  have a1 : w4.cell? ⟨w.heap.size, 1, none⟩ = some (.slice A n c) := HB.out.cell 1
  have a2 : w4.cell? ⟨w.heap.size, 2, none⟩ = some (.slice B m d) := HB.out.cell 2
  have q := HB.out.lt
  go_wp2_with fail
  refine (C4.out _ B4).mono ?_
  rintro e w5 ⟨A5, n5, c5, rfl, r5, l5, hb5⟩
  replace HU := Lib.hid (HU.out.up hb5)
  have B5 := bvia B4 hb5
  replace HB := Lib.hid (HB.out.below hb5 HB.out.lt)
  replace HS := Lib.hid (HS.out.up hb5)
  replace HT := Lib.hid (HT.out.up hb5)
  clear hb5 a0 a1 a2 q
  have HV := Lib.hid (own_rdR r5); clear r5
  obtain rfl : n5 = n4 := by rw [← l5, ← l4]
  have HLR := Lib.hid l5
  have hn5 : n5 ≤ 20000 := by rw [← l5]; exact HRL.out
  clear l4 l5
  have J1 := Lib.hid (ints18 A2 A3 n2 n3 c2 c3 _ _ w5 HSk HTk HS.out HT.out HSl.out HTl.out)
  simp only [beq_self_eq_true] at J1
  have a0 : w5.cell? ⟨w.heap.size, 0, none⟩ = some (.int .i64 t) := HB.out.cell 0
  have a1 : w5.cell? ⟨w.heap.size, 1, none⟩ = some (.slice A n c) := HB.out.cell 1
  have a2 : w5.cell? ⟨w.heap.size, 2, none⟩ = some (.slice B m d) := HB.out.cell 2
  have q := HB.out.lt
  go_wp2_with fail
  refine J1.out.mono ?_
  rintro e w6 ⟨rfl, hb6⟩
  replace HU := Lib.hid (HU.out.up hb6)
  replace HV := Lib.hid (HV.out.up hb6)
  have B6 := bvia B5 hb6
  replace HB := Lib.hid (HB.out.below hb6 HB.out.lt)
  replace HS := Lib.hid (HS.out.up hb6)
  replace HT := Lib.hid (HT.out.up hb6)
  clear hb6 a0 a1 a2 q
  clear J1
  generalize runsR t xs ps ds = R at *
  go_wp2
  go_loopw [15] (fun i wr => ∃ j : Nat, j ≤ n5 ∧ i = .int .i64 (j : Int) ∧ Below w6.heap.size w6 wr) (fun i _ => n5 - (intOf i).toNat)
  case atStart => exact ⟨0, Nat.zero_le _, rfl, Below.refl _ _⟩
  case round =>
    obtain ⟨j, hj, rfl, hb⟩ := hrel
    obtain ⟨wo, rfl⟩ : ∃ wo : World, wo = wr := ⟨_, rfl⟩
    have hz := hb.size
    by_cases hlt : j < n5
    · obtain ⟨x, hx⟩ := get_of_lt (l := R) (k := j) (by rw [HLR.out]; exact hlt)
      obtain ⟨bu, ou, rfl, hbu, u0, u1, u2⟩ := HU.out _ x hx
      obtain ⟨bv, ov, rfl, hbv, v0, v1, v2⟩ := HV.out _ x hx
      have x0 := (hb.cell (p := ⟨bu, ou + j * 3, none⟩) hbu).trans u0
      have x1 := (hb.cell (p := ⟨bu, ou + j * 3 + 1, none⟩) hbu).trans u1
      have x2 := (hb.cell (p := ⟨bu, ou + j * 3 + 2, none⟩) hbu).trans u2
      have y0 := (hb.cell (p := ⟨bv, ov + j * 3, none⟩) hbv).trans v0
      have y1 := (hb.cell (p := ⟨bv, ov + j * 3 + 1, none⟩) hbv).trans v1
      have y2 := (hb.cell (p := ⟨bv, ov + j * 3 + 2, none⟩) hbv).trans v2
      have zu : bu < wo.heap.size := by omega
      have zv : bv < wo.heap.size := by omega
      have jn : (j : Int) < (n5 : Int) := by omega
      have EQ := fun W => eqRn x.c x.f x.m W
      clear hx u0 u1 u2 v0 v1 v2
      go_wp2
      have hxc := fun (x : Ext wo) => x.cell
      refine wp_region_ext (by kernel_rfl) (by kernel_rfl) ?_
      repeat (go_big_quiet_step (fail))
      refine wpQuiet_nil ?_
      intro w7 hw'
      have hb7 := ext_below hw'; clear hw' hxc
      have B7 := hb.trans (hb7.mono hz)
      clear hb7
      go_wp2
      go_roundw
      case rel => exact ⟨j + 1, by omega, by go_num, B7⟩
      case measure => first | (simp [intOf]; done) | (simp [intOf]; omega)
    · obtain rfl : n5 = j := by omega
      obtain ⟨w7, rfl⟩ : ∃ w7 : World, w7 = wo := ⟨_, rfl⟩
      have B7 := bvia B6 hb
      replace HB := Lib.hid (HB.out.below hb HB.out.lt)
      clear hb HU HV HS HT
      have a0 : w7.cell? ⟨w.heap.size, 0, none⟩ = some (.int .i64 t) := HB.out.cell 0
      have a1 : w7.cell? ⟨w.heap.size, 1, none⟩ = some (.slice A n c) := HB.out.cell 1
      have a2 : w7.cell? ⟨w.heap.size, 2, none⟩ = some (.slice B m d) := HB.out.cell 2
      have q := HB.out.lt
      go_wp2_with fail
      refine (C5.out _ B7).mono ?_
      rintro e w8 ⟨rfl, hb8⟩
      have B8 := bvia B7 hb8
      replace HB := Lib.hid (HB.out.below hb8 HB.out.lt)
      clear hb8 a0 a1 a2 q
      have a0 : w8.cell? ⟨w.heap.size, 0, none⟩ = some (.int .i64 t) := HB.out.cell 0
      have a1 : w8.cell? ⟨w.heap.size, 1, none⟩ = some (.slice A n c) := HB.out.cell 1
      have a2 : w8.cell? ⟨w.heap.size, 2, none⟩ = some (.slice B m d) := HB.out.cell 2
      have q := HB.out.lt
      go_wp2_with fail
      refine (C6.out _ B8).mono ?_
      rintro e w9 ⟨rfl, hb9⟩
      have B9 := bvia B8 hb9
      replace HB := Lib.hid (HB.out.below hb9 HB.out.lt)
      clear hb9 a0 a1 a2 q
      have a0 : w9.cell? ⟨w.heap.size, 0, none⟩ = some (.int .i64 t) := HB.out.cell 0
      have a1 : w9.cell? ⟨w.heap.size, 1, none⟩ = some (.slice A n c) := HB.out.cell 1
      have a2 : w9.cell? ⟨w.heap.size, 2, none⟩ = some (.slice B m d) := HB.out.cell 2
      have q := HB.out.lt
      go_wp2_with fail
      refine (shown13 _).mono ?_
      rintro e w10 ⟨rfl, hb10⟩
      have B10 := bvia B9 hb10
      replace HB := Lib.hid (HB.out.below hb10 HB.out.lt)
      clear hb10 a0 a1 a2 q
      go_wp2
      go_ret
      exact ⟨rfl, B10⟩
end Go.Proofs.Ytnijfkidgndbdaa
