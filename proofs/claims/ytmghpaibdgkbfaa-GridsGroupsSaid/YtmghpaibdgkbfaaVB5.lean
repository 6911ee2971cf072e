/-
  Contracts of chapter 6: quotients rounded down; the lattice to which a matrix leads.
-/
import Derived.Test.YtmghpaibdgkbfaaVB1
import Derived.Test.YtmghpaibdgkbfaaVB3
import Derived.Test.YtmghpaibdgkbfaaVB4
namespace Go.Proofs.Ytmghpaibdgkbfaa
open Go.RowKit
theorem tdiv_neg {a b : Int} (ha : a < 0) (hb : 0 < b) : ((a.tmod b = 0 ∧ a.tdiv b = a / b) ∨ (a.tmod b ≠ 0 ∧ a.tdiv b - 1 = a / b)) ∧ a ≤ a.tdiv b ∧ a.tdiv b ≤ 0 := by
  obtain ⟨n, hn, rfl⟩ : ∃ n : Int, 0 < n ∧ a = -n := ⟨-a, by omega, by omega⟩
  rw [Int.neg_tmod, Int.neg_tdiv, Int.tdiv_eq_ediv_of_nonneg (by omega), Int.tmod_eq_emod_of_nonneg (by omega)]
  have h1 := Int.emod_nonneg n (show b ≠ 0 by omega)
  have h2 := Int.emod_lt_of_pos n hb
  have h3 := Int.mul_ediv_add_emod n b
  have h4 : 0 ≤ n / b := Int.ediv_nonneg (by omega) (by omega)
  have h5 : n / b ≤ n := Int.ediv_le_self b (by omega)
  generalize n / b = q at *
  generalize n % b = r at *
  refine ⟨?_, by omega, by omega⟩
  by_cases hr : r = 0
  · left
    refine ⟨by omega, ?_⟩
    have : -n = b * (-q) := by rw [Int.mul_neg]; omega
    rw [this, Int.mul_ediv_cancel_left _ (by omega)]
  · right
    refine ⟨by omega, ?_⟩
    have : -n = b * (-q - 1) + (b - r) := by rw [Int.mul_sub, Int.mul_neg]; omega
    rw [this, Int.mul_add_ediv_left _ _ (by omega), Int.ediv_eq_zero_of_lt (by omega) (by omega)]
    omega
set_option maxRecDepth 100000 in
set_option maxHeartbeats 600000 in
theorem floorC (a b : Int) (w : World) (hb : 0 < b) (ha : In6 1000000000 a) (hb2 : b ≤ 1000000000) : Calls Try.prog 88 #[.int .i64 a, .int .i64 b] w fun e w' => e = .returned (.int .i64 (a / b)) ∧ w = w' := by
  have hne : b ≠ 0 := by omega
  have hn1 : b ≠ -1 := by omega
  have d1 : decide (b < 0) = false := decide_eq_false (by omega)
  obtain ⟨Q, hQ⟩ : ∃ Q, Q = a / b := ⟨_, rfl⟩
  have HQ := Lib.hid hQ
  rw [← hQ]
  clear hQ
  rcases Int.lt_or_le a 0 with h | h
  · have d2 : decide (a < 0) = true := decide_eq_true h
    have HT := Lib.hid (tdiv_neg h hb)
    go_enter Try.func88, Try.ntmps88
    go_wp2
    · go_ret
      refine ⟨?_, rfl⟩
      show Ending.returned (.int .i64 (wrap64 (a.tdiv b - 1))) = .returned (.int .i64 Q)
      rename_i hr
      obtain ⟨h1, h2, h3⟩ := HT.out
      rcases h1 with h1 | h1
      · exact absurd h1.1 hr
      · rw [IntWalk.wrap64_in _ (by omega), h1.2, HQ.out]
    · go_ret
      refine ⟨?_, rfl⟩
      show Ending.returned (.int .i64 (a.tdiv b)) = .returned (.int .i64 Q)
      rename_i hr
      obtain ⟨h1, h2, h3⟩ := HT.out
      rcases h1 with h1 | h1
      · rw [h1.2, HQ.out]
      · exact absurd hr h1.1
  · have d2 : decide (a < 0) = false := decide_eq_false (by omega)
    go_enter Try.func88, Try.ntmps88
    go_wp2
    all_goals
      go_ret
      refine ⟨?_, rfl⟩
      show Ending.returned (.int .i64 (a / b)) = .returned (.int .i64 Q)
      rw [HQ.out]
set_option maxRecDepth 100000 in
set_option maxHeartbeats 1000000 in
theorem leadC (a b c p q r s : Int) (w : World) (ha : In6 10000 a) (hb : In6 10000 b) (hc : In6 10000 c) (hp : In6 2000000 p) (hq : In6 2000000 q) (hr : In6 2000000 r) (hs : In6 2000000 s) :
    Calls Try.prog 73 #[vL a b c, vM p q r s] w fun e w' => e = .returned (vL (prodL a b c p r p r) (prodL a b c p r q s) (prodL a b c q s q s)) ∧ Below w.heap.size w w' := by
  have CP := Lib.hid (fun W x y u v (hx : In6 2000000 x) (hy : In6 2000000 y) (hu : In6 2000000 u) (hv : In6 2000000 v) => productC a b c x y u v W ha hb hc hx hy hu hv)
  have G0 := Lib.hid (box_has [cL a b c, ([.int .i64 p, .int .i64 q, .int .i64 r, .int .i64 s], 40), ([.int .i64 0, .int .i64 0, .int .i64 0], 23)] (w := w) (Below.refl _ _) (i := 0) rfl)
  have G1 := Lib.hid (box_has [cL a b c, ([.int .i64 p, .int .i64 q, .int .i64 r, .int .i64 s], 40), ([.int .i64 0, .int .i64 0, .int .i64 0], 23)] (w := w) (Below.refl _ _) (i := 1) rfl)
  have G2 := Lib.hid (box_has [cL a b c, ([.int .i64 p, .int .i64 q, .int .i64 r, .int .i64 s], 40), ([.int .i64 0, .int .i64 0, .int .i64 0], 23)] (w := w) (Below.refl _ _) (i := 2) rfl)
  have S0 : Hid ((boxW w [cL a b c, ([.int .i64 p, .int .i64 q, .int .i64 r, .int .i64 s], 40), ([.int .i64 0, .int .i64 0, .int .i64 0], 23)]).heap.size = w.heap.size + 3) := boxW_size _ w
  have B0 := Lib.hid (boxW_below [cL a b c, ([.int .i64 p, .int .i64 q, .int .i64 r, .int .i64 s], 40), ([.int .i64 0, .int .i64 0, .int .i64 0], 23)] w)
  obtain ⟨W1, hW1⟩ : ∃ W1, W1 = boxW w [cL a b c, ([.int .i64 p, .int .i64 q, .int .i64 r, .int .i64 s], 40), ([.int .i64 0, .int .i64 0, .int .i64 0], 23)] := ⟨_, rfl⟩
  rw [← hW1] at G0 G1 G2 S0 B0
  go_enter Try.func73, Try.ntmps73
  go_wp2
  rw [show ((w.alloc (.cells #[.int .i64 a, .int .i64 b, .int .i64 c] 23)).alloc (.cells #[.int .i64 p, .int .i64 q, .int .i64 r, .int .i64 s] 40)).alloc (.cells #[.int .i64 0, .int .i64 0, .int .i64 0] 23) = W1 from hW1.symm]
  clear hW1
  refine wp_region_news [.q, .q, .q, .q, .q, .q, .q, .q, .q, .q, .mk 0, .mk 1, .st 0, .st 1]
      [⟨5, 11, none, 78, [.int .i64 0, .int .i64 0], [.int .i64 p, .int .i64 r], vP p r⟩, ⟨6, 16, none, 78, [.int .i64 0, .int .i64 0], [.int .i64 q, .int .i64 s], vP q s⟩] ?aH (by kernel_rfl) (by kernel_rfl) (by simp) (by simp) ?hq ?hv ?hA ?he
  case hq =>
    intro w3 h3
    have g1 := G1.out.below h3 G1.out.lt
    have x0 : w3.cell? ⟨w.heap.size + 1, 0, none⟩ = some (.int .i64 p) := g1.cell 0
    have x1 : w3.cell? ⟨w.heap.size + 1, 1, none⟩ = some (.int .i64 q) := g1.cell 1
    have x2 : w3.cell? ⟨w.heap.size + 1, 2, none⟩ = some (.int .i64 r) := g1.cell 2
    have x3 : w3.cell? ⟨w.heap.size + 1, 3, none⟩ = some (.int .i64 s) := g1.cell 3
    have q1 := g1.lt
    have hxc := fun (x : Ext w3) => x.cell
    clear g1
    show wpQuiet _ _ _ _ [_, _, _, _, _, _, _, _, _, _] _
    repeat (go_big_quiet_step (fail))
    refine wpQuiet_nil ?_
    rfl
  case hv => simp
  case hA =>
    refine ⟨fun x hx => ?_, fun x hx => ?_, fun x hx => ?_, fun x hx => ?_, trivial⟩ <;> (obtain rfl := Option.some.inj hx)
    · exact fun b W => by go_simp
    · exact fun b W => by go_simp
    · exact stOk_agg rfl rfl (by kernel_rfl) rfl (by kernel_rfl)
    · exact stOk_agg rfl rfl (by kernel_rfl) rfl (by kernel_rfl)
  case he =>
    intro bs w3 hb3 hH hne
    obtain ⟨A, hA⟩ : ∃ A, A = bs 0 := ⟨_, rfl⟩
    obtain ⟨B, hBB⟩ : ∃ B, B = bs 1 := ⟨_, rfl⟩
    have H0 := hH 0 _ rfl
    have H1 := hH 1 _ rfl
    clear hH hne
    simp only [putN, Nat.zero_add, ← hA, ← hBB, Act.put, List.setIfInBounds_toArray, List.set_cons_zero, List.set_cons_succ] at H0 H1 ⊢
    clear hA hBB
    have K0 := Lib.hid (G0.out.below hb3 G0.out.lt)
    have K2 := Lib.hid (G2.out.below hb3 G2.out.lt)
    have z0 := K2.out.lt
    have z1 := G2.out.lt
    have n1 : A ≠ w.heap.size + 2 := by omega
    have n2 : B ≠ w.heap.size + 2 := by omega
    have U0 := Lib.hid H0.1
    have U1 := Lib.hid H1.1
    have B1 := Lib.hid (bvia B0.out hb3)
    clear H0 H1 hb3 G0 G1 G2 S0 B0 z1
    go_wp2
    refine wp_region_one [.q, .q, .q, .q, .q, .q, .q, .q, .q, .q, .q, .q, .q, .st 0] ⟨4, 29, some (w.heap.size + 2), 23, [.int .i64 0, .int .i64 0, .int .i64 0], [.int .i64 (prodL a b c p r p r), .int .i64 (prodL a b c p r q s), .int .i64 (prodL a b c q s q s)], vL (prodL a b c p r p r) (prodL a b c p r q s) (prodL a b c q s q s)⟩ (w.heap.size + 2) ?aH2 rfl (by kernel_rfl) (by kernel_rfl) rfl K2.out ?hq2 ?hv2 ?hA2 ?he2
    case hq2 =>
      intro w4 h4
      have k0 := h4.has K0.out (by simp)
      have u0 := h4.has U0.out (by simp [n1])
      have u1 := h4.has U1.out (by simp [n2])
      have x0 : w4.cell? ⟨w.heap.size, 0, none⟩ = some (.int .i64 a) := k0.cell 0
      have x1 : w4.cell? ⟨w.heap.size, 1, none⟩ = some (.int .i64 b) := k0.cell 1
      have x2 : w4.cell? ⟨w.heap.size, 2, none⟩ = some (.int .i64 c) := k0.cell 2
      have x3 : w4.cell? ⟨A, 0, none⟩ = some (.int .i64 p) := u0.cell 0
      have x4 : w4.cell? ⟨A, 1, none⟩ = some (.int .i64 r) := u0.cell 1
      have x5 : w4.cell? ⟨B, 0, none⟩ = some (.int .i64 q) := u1.cell 0
      have x6 : w4.cell? ⟨B, 1, none⟩ = some (.int .i64 s) := u1.cell 1
      have q0 : w.heap.size < w4.heap.size := k0.lt
      have q1 := u0.lt
      have q2 := u1.lt
      have hxc := fun (x : Ext w4) => x.cell
      clear k0 u0 u1 h4
      show wpQuiet _ _ _ _ [_, _, _, _, _, _, _, _, _, _, _, _, _] _
      repeat (go_big_quiet_step ((go_at_call 51; exact ext_call (CP.out _ _ _ _ _ (by assumption) (by assumption) (by assumption) (by assumption)))))
      refine wpQuiet_nil ?_
      rfl
    case hv2 => simp
    case hA2 =>
      refine ⟨fun x hx => ?_, trivial⟩
      obtain rfl := Option.some.inj hx
      exact stOk_agg rfl rfl (by kernel_rfl) rfl (by kernel_rfl)
    case he2 =>
      intro w4 h4 K4
      go_wp2
      refine post_cell K4 Try.results73 rfl rfl Try.underlying23 (by kernel_rfl) ⟨rfl, h4.below' (Nat.le_trans (Nat.le_add_right _ _) (Nat.le_of_lt z0)) (by simp) |> fun h => B1.out.trans h⟩
end Go.Proofs.Ytmghpaibdgkbfaa
/-
  Plain law of lattices: products, matrices, reduced lattices.
-/
namespace Go.Proofs.Ytmghpaibdgkbfaa
namespace La
structure Lat where
  a : Int
  b : Int
  c : Int
deriving DecidableEq
structure Mat where
  a : Int
  b : Int
  c : Int
  d : Int
deriving DecidableEq
def prod (l : Lat) (x y u v : Int) : Int := l.a * x * u + l.b * (x * v + y * u) + l.c * y * v
def lead (l : Lat) (m : Mat) : Lat := ⟨prod l m.a m.c m.a m.c, prod l m.a m.c m.b m.d, prod l m.b m.d m.b m.d⟩
def mul (m n : Mat) : Mat := ⟨m.a * n.a + m.b * n.c, m.a * n.b + m.b * n.d, m.c * n.a + m.d * n.c, m.c * n.b + m.d * n.d⟩
def det (m : Mat) : Int := m.a * m.d - m.b * m.c
def inv (m : Mat) : Mat := ⟨det m * m.d, -det m * m.b, -det m * m.c, det m * m.a⟩
def one : Mat := ⟨1, 0, 0, 1⟩
def ld (l : Lat) : Int := l.a * l.c - l.b * l.b
theorem prod_lead (l : Lat) (m : Mat) (x y u v : Int) : prod (lead l m) x y u v = prod l (m.a * x + m.b * y) (m.c * x + m.d * y) (m.a * u + m.b * v) (m.c * u + m.d * v) := by
  simp only [prod, lead]; grind
theorem lead_mul (l : Lat) (m n : Mat) : lead l (mul m n) = lead (lead l m) n := by
  simp only [lead, prod, mul, Lat.mk.injEq]; refine ⟨by grind, by grind, by grind⟩
theorem lead_one (l : Lat) : lead l one = l := by
  simp only [lead, prod, one]; cases l; simp
theorem ld_lead (l : Lat) (m : Mat) : ld (lead l m) = det m * det m * ld l := by
  simp only [lead, prod, ld, det]; grind
theorem det_mul (m n : Mat) : det (mul m n) = det m * det n := by simp only [det, mul]; grind
theorem mul_assoc (m n p : Mat) : mul (mul m n) p = mul m (mul n p) := by
  simp only [mul, Mat.mk.injEq]; refine ⟨by grind, by grind, by grind, by grind⟩
theorem mul_one (m : Mat) : mul m one = m := by cases m; simp [mul, one]
theorem one_mul (m : Mat) : mul one m = m := by cases m; simp [mul, one]
def unit (m : Mat) : Prop := det m = 1 ∨ det m = -1
theorem unit_sq {m : Mat} (h : unit m) : det m * det m = 1 := by rcases h with h | h <;> rw [h] <;> rfl
theorem mul_inv {m : Mat} (h : unit m) : mul m (inv m) = one := by
  have := unit_sq h
  simp only [mul, inv, one, Mat.mk.injEq]
  simp only [det] at this ⊢
  refine ⟨by grind, by grind, by grind, by grind⟩
theorem inv_mul {m : Mat} (h : unit m) : mul (inv m) m = one := by
  have := unit_sq h
  simp only [mul, inv, one, Mat.mk.injEq]
  simp only [det] at this ⊢
  refine ⟨by grind, by grind, by grind, by grind⟩
theorem det_inv {m : Mat} (h : unit m) : det (inv m) = det m := by
  have h1 := unit_sq h
  have : det (inv m) = det m * det m * det m := by simp only [det, inv]; grind
  rw [this, h1]; omega
theorem unit_inv {m : Mat} (h : unit m) : unit (inv m) := by unfold unit; rw [det_inv h]; exact h
theorem unit_mul {m n : Mat} (h : unit m) (h2 : unit n) : unit (mul m n) := by
  unfold unit; rw [det_mul]; rcases h with h | h <;> rcases h2 with h2 | h2 <;> rw [h, h2] <;> simp
theorem lead_inv {l r : Lat} {m : Mat} (h : unit m) (e : lead l m = r) : lead r (inv m) = l := by
  rw [← e, ← lead_mul, mul_inv h, lead_one]
structure Val (l : Lat) : Prop where
  a1 : 1 ≤ l.a
  c1 : 1 ≤ l.c
  d1 : 1 ≤ ld l
structure Red (l : Lat) : Prop where
  b0 : 0 ≤ l.b
  ba : 2 * l.b ≤ l.a
  ac : l.a ≤ l.c
theorem sq_nn (x : Int) : 0 ≤ x * x := by
  rcases Int.le_total 0 x with h | h
  · exact Int.mul_nonneg h h
  · have := Int.mul_nonneg (show 0 ≤ -x by omega) (show 0 ≤ -x by omega)
    rw [Int.neg_mul_neg] at this; exact this
theorem sq_pos {x : Int} (h : x ≠ 0) : 1 ≤ x * x := by
  have h0 := sq_nn x
  have h1 : x * x ≠ 0 := by
    intro e; rcases Int.mul_eq_zero.1 e with e | e <;> exact h e
  omega
/-- a times the squared length -/
theorem a_prod (l : Lat) (x y : Int) : l.a * prod l x y x y = (l.a * x + l.b * y) * (l.a * x + l.b * y) + ld l * (y * y) := by
  simp only [prod, ld]; grind
theorem c_prod (l : Lat) (x y : Int) : l.c * prod l x y x y = (l.b * x + l.c * y) * (l.b * x + l.c * y) + ld l * (x * x) := by
  simp only [prod, ld]; grind
theorem prod_pos {l : Lat} (h : Val l) {x y : Int} (hn : x ≠ 0 ∨ y ≠ 0) : 1 ≤ prod l x y x y := by
  have h1 := a_prod l x y
  have hs := sq_nn (l.a * x + l.b * y)
  have : 0 < l.a * prod l x y x y := by
    by_cases hy : y = 0
    · subst hy
      have hx : x ≠ 0 := by simpa using hn
      have := sq_pos hx
      have e : prod l x 0 x 0 = l.a * (x * x) := by simp only [prod]; grind
      rw [e]
      have := Int.mul_pos (show 0 < l.a by have := h.a1; omega) (show 0 < x * x by omega)
      exact Int.mul_pos (show 0 < l.a by have := h.a1; omega) this
    · have := sq_pos hy
      have := Int.mul_pos (show 0 < ld l by have := h.d1; omega) (show 0 < y * y by omega)
      omega
  have h0 : 0 < l.a := by have := h.a1; omega
  refine Int.not_lt.1 fun h2 => ?_
  have := Int.mul_le_mul_of_nonneg_left (show prod l x y x y ≤ 0 by omega) (show 0 ≤ l.a by omega)
  omega
/-- a step that is not parallel to the first one is as long as the second one -/
theorem red_c {l : Lat} (h : Red l) (ha : 1 ≤ l.a) {x y : Int} (hy : y ≠ 0) : l.c ≤ prod l x y x y := by
  have e : prod l x y x y = l.a * (x * x) + 2 * l.b * (x * y) + l.c * (y * y) := by simp only [prod]; grind
  rw [e]
  have b0 := h.b0
  have ba := h.ba
  have ac := h.ac
  -- |x|, |y|
  obtain ⟨p, hp, hp2⟩ : ∃ p : Int, 0 ≤ p ∧ (p = x ∨ p = -x) := ⟨x.natAbs, by omega, by omega⟩
  obtain ⟨q, hq, hq2⟩ : ∃ q : Int, 1 ≤ q ∧ (q = y ∨ q = -y) := ⟨y.natAbs, by omega, by omega⟩
  have exx : x * x = p * p := by rcases hp2 with e | e <;> rw [e] <;> grind
  have eyy : y * y = q * q := by rcases hq2 with e | e <;> rw [e] <;> grind
  have exy : -(p * q) ≤ x * y := by
    have hpq := Int.mul_nonneg hp (show 0 ≤ q by omega)
    rcases hp2 with e | e <;> rcases hq2 with e' | e' <;> rw [e, e'] at hpq ⊢ <;> grind
  rw [exx, eyy]
  have hb : -(l.a * (p * q)) ≤ 2 * l.b * (x * y) := by
    have h1 := Int.mul_le_mul_of_nonneg_left exy (show 0 ≤ 2 * l.b by omega)
    have h2 := Int.mul_le_mul_of_nonneg_right ba (Int.mul_nonneg hp (show 0 ≤ q by omega))
    grind
  have key : l.c ≤ l.a * (p * p) - l.a * (p * q) + l.c * (q * q) := by
    have hq1 : 1 ≤ q * q := sq_pos (by omega)
    rcases Int.le_total q p with g | g
    · have h1 := Int.mul_nonneg (Int.mul_nonneg (show 0 ≤ l.a by omega) hp) (show 0 ≤ p - q by omega)
      have h2 := Int.mul_le_mul_of_nonneg_left hq1 (show 0 ≤ l.c by omega)
      grind
    · have h1 := Int.mul_nonneg (Int.mul_nonneg (show 0 ≤ l.c - l.a by omega) hp) (show 0 ≤ q - p by omega)
      have h3 : 1 ≤ p * p - p * q + q * q := by
        have := Int.mul_nonneg (show 0 ≤ q - p by omega) (show 0 ≤ q by omega)
        by_cases hp0 : p = 0
        · subst hp0; grind
        · have := sq_pos hp0; grind
      have h2 := Int.mul_le_mul_of_nonneg_left h3 (show 0 ≤ l.c by omega)
      grind
  omega
theorem red_a {l : Lat} (h : Red l) (ha : 1 ≤ l.a) {x y : Int} (hn : x ≠ 0 ∨ y ≠ 0) : l.a ≤ prod l x y x y := by
  by_cases hy : y = 0
  · subst hy
    have hx := sq_pos (show x ≠ 0 by simpa using hn)
    have e : prod l x 0 x 0 = l.a * (x * x) := by simp only [prod]; grind
    rw [e]
    have := Int.mul_le_mul_of_nonneg_left hx (show 0 ≤ l.a by omega)
    omega
  · exact Int.le_trans h.ac (red_c h ha hy)
theorem unit_col {m : Mat} (h : unit m) : (m.a ≠ 0 ∨ m.c ≠ 0) ∧ (m.b ≠ 0 ∨ m.d ≠ 0) ∧ (m.c ≠ 0 ∨ m.d ≠ 0) := by
  unfold unit det at h
  refine ⟨?_, ?_, ?_⟩
  · by_cases h1 : m.a = 0
    · right; intro h2; rw [h1, h2] at h; simp at h
    · exact Or.inl h1
  · by_cases h1 : m.b = 0
    · right; intro h2; rw [h1, h2] at h; simp at h
    · exact Or.inl h1
  · by_cases h1 : m.c = 0
    · right; intro h2; rw [h1, h2] at h; simp at h
    · exact Or.inl h1
theorem red_le {r s : Lat} {m : Mat} (hr : Red r) (ha : 1 ≤ r.a) (hs : Red s) (hm : unit m) (e : lead r m = s) : r.a ≤ s.a ∧ r.c ≤ s.c := by
  obtain ⟨h1, h2, h3⟩ := unit_col hm
  have ea : s.a = prod r m.a m.c m.a m.c := by rw [← e]; rfl
  have ec : s.c = prod r m.b m.d m.b m.d := by rw [← e]; rfl
  refine ⟨by rw [ea]; exact red_a hr ha h1, ?_⟩
  rcases h3 with h3 | h3
  · have := red_c hr ha (x := m.a) h3
    have := hs.ac
    omega
  · rw [ec]; exact red_c hr ha h3
/-- a reduced lattice is the only one -/
theorem red_uniq {r s : Lat} {m : Mat} (hr : Red r) (ha : 1 ≤ r.a) (hs : Red s) (ha2 : 1 ≤ s.a) (hm : unit m) (e : lead r m = s) : r = s := by
  obtain ⟨h1, h2⟩ := red_le hr ha hs hm e
  obtain ⟨h3, h4⟩ := red_le hs ha2 hr (unit_inv hm) (lead_inv hm e)
  have h5 : ld s = ld r := by rw [← e, ld_lead, unit_sq hm]; omega
  have e1 : r.a = s.a := by omega
  have e2 : r.c = s.c := by omega
  have e3 : r.b * r.b = s.b * s.b := by unfold ld at h5; rw [e1, e2] at h5; omega
  have e4 : r.b = s.b := by
    have h6 := hr.b0
    have h7 := hs.b0
    have h8 : (r.b - s.b) * (r.b + s.b) = 0 := by grind
    rcases Int.mul_eq_zero.1 h8 with h | h <;> omega
  cases r; cases s; simp_all

/-- the numbers of a matrix that keeps a reduced lattice are -1, 0 or 1 -/
theorem small_c {l : Lat} (h : Red l) (ha : 1 ≤ l.a) {x y : Int} (hp : prod l x y x y ≤ l.c) : -1 ≤ y ∧ y ≤ 1 := by
  have h1 := a_prod l x y
  have hs := sq_nn (l.a * x + l.b * y)
  have b0 := h.b0
  have ba := h.ba
  have ac := h.ac
  have hd : 3 * (l.a * l.c) ≤ 4 * ld l := by
    have h2 : 4 * (l.b * l.b) ≤ l.a * l.a := by
      have := Int.mul_nonneg (show 0 ≤ l.a - 2 * l.b by omega) (show 0 ≤ l.a + 2 * l.b by omega)
      grind
    have h3 := Int.mul_le_mul_of_nonneg_left ac (show 0 ≤ l.a by omega)
    unfold ld; omega
  have hac : 1 ≤ l.a * l.c := by
    have := Int.mul_le_mul_of_nonneg_left ac (show 0 ≤ l.a by omega)
    have := sq_pos (show l.a ≠ 0 by omega)
    omega
  have h4 := Int.mul_le_mul_of_nonneg_left hp (show 0 ≤ l.a by omega)
  have h5 : ¬ 4 ≤ y * y := by
    intro h6
    have h7 := Int.mul_le_mul_of_nonneg_left h6 (show 0 ≤ ld l by omega)
    omega
  constructor
  · refine Int.not_lt.1 fun h6 => h5 ?_
    have := Int.mul_nonneg (show 0 ≤ -y - 2 by omega) (show 0 ≤ -y + 2 by omega)
    grind
  · refine Int.not_lt.1 fun h6 => h5 ?_
    have := Int.mul_nonneg (show 0 ≤ y - 2 by omega) (show 0 ≤ y + 2 by omega)
    grind
theorem small_a {l : Lat} (h : Red l) (ha : 1 ≤ l.a) {x y : Int} (hp : prod l x y x y ≤ l.a) : -1 ≤ x ∧ x ≤ 1 := by
  have h1 := c_prod l x y
  have hs := sq_nn (l.b * x + l.c * y)
  have b0 := h.b0
  have ba := h.ba
  have ac := h.ac
  have hd : 3 * (l.a * l.c) ≤ 4 * ld l := by
    have h2 : 4 * (l.b * l.b) ≤ l.a * l.a := by
      have := Int.mul_nonneg (show 0 ≤ l.a - 2 * l.b by omega) (show 0 ≤ l.a + 2 * l.b by omega)
      grind
    have h3 := Int.mul_le_mul_of_nonneg_left ac (show 0 ≤ l.a by omega)
    unfold ld; omega
  have hac : 1 ≤ l.a * l.c := by
    have := Int.mul_le_mul_of_nonneg_left ac (show 0 ≤ l.a by omega)
    have := sq_pos (show l.a ≠ 0 by omega)
    omega
  have h4 := Int.mul_le_mul_of_nonneg_left hp (show 0 ≤ l.c by omega)
  have h8 := Int.mul_comm l.a l.c
  have h5 : ¬ 4 ≤ x * x := by
    intro h6
    have h7 := Int.mul_le_mul_of_nonneg_left h6 (show 0 ≤ ld l by omega)
    omega
  constructor
  · refine Int.not_lt.1 fun h6 => h5 ?_
    have := Int.mul_nonneg (show 0 ≤ -x - 2 by omega) (show 0 ≤ -x + 2 by omega)
    grind
  · refine Int.not_lt.1 fun h6 => h5 ?_
    have := Int.mul_nonneg (show 0 ≤ x - 2 by omega) (show 0 ≤ x + 2 by omega)
    grind
theorem lead_unit {l : Lat} (h : 1 ≤ ld l) {m : Mat} (e : lead l m = l) : unit m := by
  have h1 := ld_lead l m
  rw [e] at h1
  have h2 : (det m * det m - 1) * ld l = 0 := by grind
  rcases Int.mul_eq_zero.1 h2 with h3 | h3
  · have h4 : (det m - 1) * (det m + 1) = 0 := by grind
    rcases Int.mul_eq_zero.1 h4 with h5 | h5
    · exact Or.inl (by omega)
    · exact Or.inr (by omega)
  · omega
theorem keep_small {r : Lat} (h : Red r) (ha : 1 ≤ r.a) (hd : 1 ≤ ld r) {m : Mat} (e : lead r m = r) : (-1 ≤ m.a ∧ m.a ≤ 1) ∧ (-1 ≤ m.b ∧ m.b ≤ 1) ∧ (-1 ≤ m.c ∧ m.c ≤ 1) ∧ (-1 ≤ m.d ∧ m.d ≤ 1) := by
  have hu := lead_unit hd e
  have ea : prod r m.a m.c m.a m.c = r.a := by rw [lead, Lat.mk.injEq] at e; exact (congrArg Lat.a (show lead r m = r by cases r; simpa [lead] using e))
  have ec : prod r m.b m.d m.b m.d = r.c := congrArg Lat.c (show lead r m = r from e)
  have ha1 := small_a h ha (x := m.a) (y := m.c) (by omega)
  have hc1 := small_c h ha (x := m.a) (y := m.c) (by have := h.ac; omega)
  have hd1 := small_c h ha (x := m.b) (y := m.d) (by omega)
  refine ⟨ha1, ?_, hc1, hd1⟩
  have b0 := h.b0
  have ba := h.ba
  unfold unit det at hu
  by_cases h0 : m.d = 0
  · rw [h0] at hu
    rcases (show m.c = -1 ∨ m.c = 0 ∨ m.c = 1 by omega) with g | g | g <;> rw [g] at hu <;> omega
  · have h1 : m.d * m.d = 1 := by rcases (show m.d = -1 ∨ m.d = 1 by omega) with g | g <;> rw [g] <;> rfl
    have h2 : m.b * (r.a * m.b + 2 * r.b * m.d) = 0 := by
      simp only [prod] at ec; grind
    rcases Int.mul_eq_zero.1 h2 with h3 | h3
    · omega
    · have h4 : r.a * m.b = - (2 * r.b * m.d) := by omega
      constructor
      · refine Int.not_lt.1 fun h5 => ?_
        have := Int.mul_le_mul_of_nonneg_left (show m.b ≤ -2 by omega) (show 0 ≤ r.a by omega)
        rcases (show m.d = -1 ∨ m.d = 1 by omega) with g | g <;> rw [g] at h4 <;> omega
      · refine Int.not_lt.1 fun h5 => ?_
        have := Int.mul_le_mul_of_nonneg_left (show 2 ≤ m.b by omega) (show 0 ≤ r.a by omega)
        rcases (show m.d = -1 ∨ m.d = 1 by omega) with g | g <;> rw [g] at h4 <;> omega
end La
end Go.Proofs.Ytmghpaibdgkbfaa
/-
  Plain law of lattices: the steps of the reduction.
-/
namespace Go.Proofs.Ytmghpaibdgkbfaa
namespace La
def shear (k : Int) : Mat := ⟨1, -k, 0, 1⟩
def flip : Mat := ⟨1, 0, 0, -1⟩
def swp : Mat := ⟨0, 1, 1, 0⟩
def stepB (l : Lat) (k : Int) : Lat := ⟨l.a, l.b - k * l.a, l.c - 2 * k * l.b + k * k * l.a⟩
theorem lead_shear (l : Lat) (k : Int) : lead l (shear k) = stepB l k := by
  simp only [lead, prod, shear, stepB, Lat.mk.injEq]; refine ⟨by grind, by grind, by grind⟩
theorem lead_flip (l : Lat) : lead l flip = ⟨l.a, -l.b, l.c⟩ := by
  simp only [lead, prod, flip, Lat.mk.injEq]; refine ⟨by grind, by grind, by grind⟩
theorem lead_swp (l : Lat) : lead l swp = ⟨l.c, l.b, l.a⟩ := by
  simp only [lead, prod, swp, Lat.mk.injEq]; refine ⟨by grind, by grind, by grind⟩
theorem mul_flip (m : Mat) : mul m flip = ⟨m.a, -m.b, m.c, -m.d⟩ := by
  simp only [mul, flip, Mat.mk.injEq]; refine ⟨by grind, by grind, by grind, by grind⟩
theorem mul_swp (m : Mat) : mul m swp = ⟨m.b, m.a, m.d, m.c⟩ := by
  simp only [mul, swp, Mat.mk.injEq]; refine ⟨by grind, by grind, by grind, by grind⟩
theorem unit_shear (k : Int) : unit (shear k) := Or.inl (by simp only [det, shear]; grind)
theorem unit_flip : unit flip := Or.inr (by decide)
theorem unit_swp : unit swp := Or.inr (by decide)
structure St (l0 l : Lat) (m : Mat) : Prop where
  e : lead l0 m = l
  u : unit m
  v : Val l
  ba : l.a ≤ 10000
  bc : l.c ≤ 10000
theorem sq_le {x N : Int} (hN : 0 ≤ N) (h : x * x ≤ N * N) : -N ≤ x ∧ x ≤ N := by
  constructor
  · refine Int.not_lt.1 fun h1 => ?_
    have := Int.mul_nonneg (show 0 ≤ -x - N - 1 by omega) (show 0 ≤ -x - N - 1 by omega)
    have h2 := Int.mul_nonneg (show 0 ≤ -x - N - 1 by omega) hN
    grind
  · refine Int.not_lt.1 fun h1 => ?_
    have := Int.mul_nonneg (show 0 ≤ x - N - 1 by omega) (show 0 ≤ x - N - 1 by omega)
    have h2 := Int.mul_nonneg (show 0 ≤ x - N - 1 by omega) hN
    grind
theorem Val.b_lt {l : Lat} (h : Val l) (ha : l.a ≤ 10000) (hc : l.c ≤ 10000) : -10000 ≤ l.b ∧ l.b ≤ 10000 := by
  refine sq_le (by decide) ?_
  have h1 := h.d1
  unfold ld at h1
  have h2 := Int.mul_le_mul_of_nonneg_left hc (show 0 ≤ l.a by have := h.a1; omega)
  omega
theorem fit_of {l : Lat} (h : Val l) (ha : l.a ≤ 10000) (hc : l.c ≤ 10000) {x y : Int} (hp : prod l x y x y ≤ 10000) : (-10000 ≤ x ∧ x ≤ 10000) ∧ (-10000 ≤ y ∧ y ≤ 10000) := by
  have h1 := h.d1
  have ha1 := h.a1
  have hc1 := h.c1
  have e1 := a_prod l x y
  have e2 := c_prod l x y
  have s1 := sq_nn (l.a * x + l.b * y)
  have s2 := sq_nn (l.b * x + l.c * y)
  have b1 := Int.mul_le_mul_of_nonneg_left hp (show 0 ≤ l.a by omega)
  have b2 := Int.mul_le_mul_of_nonneg_left hp (show 0 ≤ l.c by omega)
  have c1 := Int.mul_le_mul_of_nonneg_right h1 (sq_nn y)
  have c2 := Int.mul_le_mul_of_nonneg_right h1 (sq_nn x)
  exact ⟨sq_le (by decide) (by omega), sq_le (by decide) (by omega)⟩
theorem St.fit {l0 l : Lat} {m : Mat} (h : St l0 l m) (v0 : Val l0) (ha : l0.a ≤ 10000) (hc : l0.c ≤ 10000) : ((-10000 ≤ m.a ∧ m.a ≤ 10000) ∧ (-10000 ≤ m.c ∧ m.c ≤ 10000)) ∧ ((-10000 ≤ m.b ∧ m.b ≤ 10000) ∧ (-10000 ≤ m.d ∧ m.d ≤ 10000)) := by
  have e1 : prod l0 m.a m.c m.a m.c = l.a := by rw [← h.e]; rfl
  have e2 : prod l0 m.b m.d m.b m.d = l.c := by rw [← h.e]; rfl
  exact ⟨fit_of v0 ha hc (by rw [e1]; exact h.ba), fit_of v0 ha hc (by rw [e2]; exact h.bc)⟩
theorem ld_stepB (l : Lat) (k : Int) : ld (stepB l k) = ld l := by unfold ld stepB; grind
theorem k_in {a b : Int} (ha : 1 ≤ a) (ha2 : a ≤ 10000) (hb : -10000 ≤ b ∧ b ≤ 10000) : -15000 ≤ (2 * b + a) / (2 * a) ∧ (2 * b + a) / (2 * a) ≤ 15000 := by
  constructor
  · rw [Int.le_ediv_iff_mul_le (by omega)]; omega
  · refine Int.le_of_lt_add_one ?_
    rw [Int.ediv_lt_iff_lt_mul (by omega)]; omega
theorem k_half {a b : Int} (ha : 1 ≤ a) : -a ≤ 2 * (b - (2 * b + a) / (2 * a) * a) ∧ 2 * (b - (2 * b + a) / (2 * a) * a) < a := by
  have h1 := Int.emod_nonneg (2 * b + a) (show 2 * a ≠ 0 by omega)
  have h2 := Int.emod_lt_of_pos (2 * b + a) (show 0 < 2 * a by omega)
  have h3 := Int.mul_ediv_add_emod (2 * b + a) (2 * a)
  generalize (2 * b + a) / (2 * a) = k at *
  have e : 2 * a * k = 2 * (k * a) := by grind
  omega
theorem c_le {l : Lat} (h : Val l) {k : Int} (hk : k = (2 * l.b + l.a) / (2 * l.a)) : 1 ≤ (stepB l k).c ∧ (stepB l k).c ≤ l.c := by
  have h1 := k_half (b := l.b) h.a1
  rw [← hk] at h1
  have hd := h.d1
  rw [← ld_stepB l k] at hd
  have ha := h.a1
  have e0 : ld (stepB l k) = l.a * (stepB l k).c - (l.b - k * l.a) * (l.b - k * l.a) := rfl
  have s0 := sq_nn (l.b - k * l.a)
  constructor
  · refine Int.not_lt.1 fun h2 => ?_
    have := Int.mul_le_mul_of_nonneg_left (show (stepB l k).c ≤ 0 by omega) (show 0 ≤ l.a by omega)
    omega
  · refine Int.not_lt.1 fun h2 => ?_
    have h3 := Int.mul_le_mul_of_nonneg_left (show l.c + 1 ≤ (stepB l k).c by omega) (show 0 ≤ l.a by omega)
    have e1 : ld (stepB l k) = ld l := ld_stepB l k
    have e2 : ld l = l.a * l.c - l.b * l.b := rfl
    have h4 : l.b * l.b < (l.b - k * l.a) * (l.b - k * l.a) := by
      have e3 : l.a * (l.c + 1) = l.a * l.c + l.a := by grind
      omega
    generalize hx : l.b - k * l.a = x at *
    -- |x| ≤ a / 2, and x is not b: so |b| is at least a / 2
    by_cases hk0 : k = 0
    · subst hk0
      have : x = l.b := by rw [← hx]; omega
      rw [this] at h4; omega
    · have h5 : l.a ≤ 2 * l.b ∨ 2 * l.b ≤ -l.a := by
        refine Classical.byContradiction fun h6 => ?_
        have h7 : -l.a < 2 * l.b ∧ 2 * l.b < l.a := by omega
        rcases Int.lt_or_gt_of_ne hk0 with hk1 | hk1
        · have := Int.mul_le_mul_of_nonneg_right (show k ≤ -1 by omega) (show 0 ≤ l.a by omega)
          omega
        · have := Int.mul_le_mul_of_nonneg_right (show 1 ≤ k by omega) (show 0 ≤ l.a by omega)
          omega
      have h8 : 4 * (x * x) ≤ l.a * l.a := by
        have := Int.mul_nonneg (show 0 ≤ l.a - 2 * x by omega) (show 0 ≤ l.a + 2 * x by omega)
        grind
      have h9 : l.a * l.a ≤ 4 * (l.b * l.b) := by
        rcases h5 with h5 | h5
        · have := Int.mul_nonneg (show 0 ≤ 2 * l.b - l.a by omega) (show 0 ≤ 2 * l.b + l.a by omega)
          grind
        · have := Int.mul_nonneg (show 0 ≤ -(2 * l.b) - l.a by omega) (show 0 ≤ -(2 * l.b) + l.a by omega)
          grind
      omega
theorem St.step {l0 l : Lat} {m : Mat} (h : St l0 l m) {k : Int} (hk : k = (2 * l.b + l.a) / (2 * l.a)) : St l0 (stepB l k) (mul m (shear k)) := by
  obtain ⟨h1, h2⟩ := c_le h.v hk
  refine ⟨by rw [lead_mul, h.e, lead_shear], unit_mul h.u (unit_shear k), ⟨h.v.a1, h1, by rw [ld_stepB]; exact h.v.d1⟩, h.ba, by have := h.bc; omega⟩
theorem St.flip {l0 l : Lat} {m : Mat} (h : St l0 l m) : St l0 ⟨l.a, -l.b, l.c⟩ ⟨m.a, -m.b, m.c, -m.d⟩ := by
  refine ⟨by rw [← mul_flip, lead_mul, h.e, lead_flip], by rw [← mul_flip]; exact unit_mul h.u unit_flip, ⟨h.v.a1, h.v.c1, ?_⟩, h.ba, h.bc⟩
  have := h.v.d1
  unfold ld at *
  simp only [Int.neg_mul_neg]
  exact this
theorem St.swp {l0 l : Lat} {m : Mat} (h : St l0 l m) : St l0 ⟨l.c, l.b, l.a⟩ ⟨m.b, m.a, m.d, m.c⟩ := by
  refine ⟨by rw [← mul_swp, lead_mul, h.e, lead_swp], by rw [← mul_swp]; exact unit_mul h.u unit_swp, ⟨h.v.c1, h.v.a1, ?_⟩, h.bc, h.ba⟩
  have := h.v.d1
  unfold ld at *
  simp only
  rw [Int.mul_comm]; exact this
theorem St.start {l : Lat} (h : Val l) (ha : l.a ≤ 10000) (hc : l.c ≤ 10000) : St l l one := ⟨lead_one l, Or.inl (by decide), h, ha, hc⟩
end La
end Go.Proofs.Ytmghpaibdgkbfaa
/-
  Two results that lie in memory.
-/
namespace Go.Proofs.Ytmghpaibdgkbfaa
open Go.RowKit
section
variable {P : Program} {fn : Func} {R : Ending → World → Prop} {a : Act} {w : World}
theorem results_cell2 {p q : Tmp} {ty tz : TypeId} (h : fn.results = #[.cell p ty, .cell q tz]) (tmps : Array Value) (w : World) :
    (results fn tmps).run P w =
      ((asAddr (tmps.getD p undef)).run P w).andThen fun a w₁ => ((loadVar ty a).run P w₁).andThen fun v w₂ => ((asAddr (tmps.getD q undef)).run P w₂).andThen fun b w₃ => ((loadVar tz b).run P w₃).andThen fun u w₄ => .ok (.tuple #[v, u]) w₄ := by
  simp only [results, h]
  simp [Sem.run_bind, Result.andThen]
theorem results_cell2_tmp {p q u : Tmp} {ty tz : TypeId} (h : fn.results = #[.cell p ty, .cell q tz, .tmp u]) (tmps : Array Value) (w : World) :
    (results fn tmps).run P w =
      ((asAddr (tmps.getD p undef)).run P w).andThen fun a w₁ => ((loadVar ty a).run P w₁).andThen fun v w₂ => ((asAddr (tmps.getD q undef)).run P w₂).andThen fun b w₃ => ((loadVar tz b).run P w₃).andThen fun x w₄ => .ok (.tuple #[v, x, tmps.getD u undef]) w₄ := by
  simp only [results, h]
  simp [Sem.run_bind, Result.andThen]
theorem post_cell2 {g g' : Nat} {t t' ty tz : TypeId} {p q : Tmp} {cs ds : List Value} {fs gs : Array Field} (hh : Has w g t cs) (hh' : Has w g' t' ds) (hres : fn.results = #[.cell p ty, .cell q tz])
    (hp : a.tmps.getD p undef = .pointer (some ⟨g, 0, none⟩)) (hq : a.tmps.getD q undef = .pointer (some ⟨g', 0, none⟩)) (hd : a.defers = []) (hu : P.underlying ty = some (.struct fs)) (hi : (P.info? ty).map (·.size) = some cs.toArray.size)
    (hu' : P.underlying tz = some (.struct gs)) (hi' : (P.info? tz).map (·.size) = some ds.toArray.size)
    (hR : R (.returned (.tuple #[.agg cs.toArray, .agg ds.toArray])) w) : bodyPost P fn R .ret a w := by
  refine bodyPost_ret (v := .tuple #[.agg cs.toArray, .agg ds.toArray]) ?_ hd hR
  have hl := run_loadVar_row (P := P) w g t ty cs.toArray (0, 0) (.struct fs) hh hu rfl hi
  have hl' := run_loadVar_row (P := P) w g' t' tz ds.toArray (0, 0) (.struct gs) hh' hu' rfl hi'
  rw [results_cell2 hres, hp, hq]
  simp [asAddr, hl, hl', Result.andThen]
theorem post_cell2_tmp {g g' : Nat} {t t' ty tz : TypeId} {p q u : Tmp} {cs ds : List Value} {v : Value} {fs gs : Array Field} (hh : Has w g t cs) (hh' : Has w g' t' ds) (hres : fn.results = #[.cell p ty, .cell q tz, .tmp u])
    (hp : a.tmps.getD p undef = .pointer (some ⟨g, 0, none⟩)) (hq : a.tmps.getD q undef = .pointer (some ⟨g', 0, none⟩)) (hv : a.tmps.getD u undef = v) (hd : a.defers = []) (hu : P.underlying ty = some (.struct fs)) (hi : (P.info? ty).map (·.size) = some cs.toArray.size)
    (hu' : P.underlying tz = some (.struct gs)) (hi' : (P.info? tz).map (·.size) = some ds.toArray.size)
    (hR : R (.returned (.tuple #[.agg cs.toArray, .agg ds.toArray, v])) w) : bodyPost P fn R .ret a w := by
  refine bodyPost_ret (v := .tuple #[.agg cs.toArray, .agg ds.toArray, v]) ?_ hd hR
  have hl := run_loadVar_row (P := P) w g t ty cs.toArray (0, 0) (.struct fs) hh hu rfl hi
  have hl' := run_loadVar_row (P := P) w g' t' tz ds.toArray (0, 0) (.struct gs) hh' hu' rfl hi'
  rw [results_cell2_tmp hres, hp, hq, hv]
  simp [asAddr, hl, hl', Result.andThen]
end
end Go.Proofs.Ytmghpaibdgkbfaa
