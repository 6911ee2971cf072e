/-
  Contracts of chapter 6: small and Order, the document's.
-/
import Derived.Test.YtmghpaibdgkbfaaVA1
import Derived.Test.YtmghpaibdgkbfaaVA9
namespace Go.Proofs.Ytmghpaibdgkbfaa
open Go.RowKit
def okS (x : Int) : Bool := decide (-1000000 ≤ x) && decide (x ≤ 1000000)
theorem okS_iff (x : Int) : okS x = true ↔ In6 1000000 x := by unfold okS; simp
def okS4 (a b c d : Int) : Bool := okS a && (okS b && (okS c && okS d))
theorem okS4_iff (a b c d : Int) : okS4 a b c d = true ↔ In6 1000000 a ∧ In6 1000000 b ∧ In6 1000000 c ∧ In6 1000000 d := by
  unfold okS4
  rw [Bool.and_eq_true, Bool.and_eq_true, Bool.and_eq_true, okS_iff, okS_iff, okS_iff, okS_iff]
theorem fromS (x : Int) (w : World) : Calls Try.prog 53 #[.int .i64 x, .int .i64 (-1000000), .int .i64 1000000] w fun e w' => e = .returned (.bool (okS x)) ∧ w = w' := fromC x (-1000000) 1000000 w
set_option maxRecDepth 100000 in
set_option maxHeartbeats 1000000 in
theorem smallC (a b c d : Int) (w : World) : Calls Try.prog 83 #[vM a b c d] w fun e w' => e = .returned (.bool (okS4 a b c d)) ∧ Below w.heap.size w w' := by
  have Ca := Lib.hid (fun W => fromS a W)
  have Cb := Lib.hid (fun W => fromS b W)
  have Cc := Lib.hid (fun W => fromS c W)
  have Cd := Lib.hid (fun W => fromS d W)
  unfold okS4
  cases ha : okS a with
  | false =>
    rw [ha] at Ca
    rw [Bool.false_and]
    clear ha
    go_enter Try.func83, Try.ntmps83
    go_wp2_with fail
    refine (Ca.out _).mono ?_
    rintro e w1 ⟨rfl, rfl⟩
    go_wp2
    go_ret
    exact ⟨rfl, by go_grown⟩
  | true =>
  rw [ha] at Ca
  rw [Bool.true_and]
  clear ha
  cases hb : okS b with
  | false =>
    rw [hb] at Cb
    rw [Bool.false_and]
    clear hb
    go_enter Try.func83, Try.ntmps83
    go_wp2_with fail
    refine (Ca.out _).mono ?_
    rintro e w1 ⟨rfl, rfl⟩
    go_wp2_with fail
    refine (Cb.out _).mono ?_
    rintro e w1 ⟨rfl, rfl⟩
    go_wp2
    go_ret
    exact ⟨rfl, by go_grown⟩
  | true =>
  rw [hb] at Cb
  rw [Bool.true_and]
  clear hb
  cases hc : okS c with
  | false =>
    rw [hc] at Cc
    rw [Bool.false_and]
    clear hc
    go_enter Try.func83, Try.ntmps83
    go_wp2_with fail
    refine (Ca.out _).mono ?_
    rintro e w1 ⟨rfl, rfl⟩
    go_wp2_with fail
    refine (Cb.out _).mono ?_
    rintro e w1 ⟨rfl, rfl⟩
    go_wp2_with fail
    refine (Cc.out _).mono ?_
    rintro e w1 ⟨rfl, rfl⟩
    go_wp2
    go_ret
    exact ⟨rfl, by go_grown⟩
  | true =>
  rw [hc] at Cc
  rw [Bool.true_and]
  clear hc
  generalize okS d = r at *
  go_enter Try.func83, Try.ntmps83
  go_wp2_with fail
  refine (Ca.out _).mono ?_
  rintro e w1 ⟨rfl, rfl⟩
  go_wp2_with fail
  refine (Cb.out _).mono ?_
  rintro e w1 ⟨rfl, rfl⟩
  go_wp2_with fail
  refine (Cc.out _).mono ?_
  rintro e w1 ⟨rfl, rfl⟩
  go_wp2_with fail
  refine (Cd.out _).mono ?_
  rintro e w1 ⟨rfl, rfl⟩
  go_wp2
  go_ret
  exact ⟨by first | rfl | (cases r <;> rfl), by go_grown⟩
/-- the document's order: the powers one after the other, from the k-th, n of them at most -/
def rordN (a b c d : Int) : Nat → Int → Int → Int → Int → Int → Int
  | 0, _, _, _, _, _ => 0
  | n + 1, k, p, q, r, s => if okS4 p q r s = true then (if sameM p q r s 1 0 0 1 = true then k else rordN a b c d n (k + 1) (a * p + b * r) (a * q + b * s) (c * p + d * r) (c * q + d * s)) else 0
def rordR (a b c d : Int) : Int × Int := if okM a b c d = true then (rordN a b c d 12 1 a b c d, 0) else (0, 2)
set_option maxRecDepth 100000 in
set_option maxHeartbeats 1500000 in
theorem rorderC (a b c d : Int) (w : World) : Calls Try.prog 42 #[vM a b c d] w fun e w' => e = .returned (.tuple #[.int .i64 (rordR a b c d).1, .int .i64 (rordR a b c d).2]) ∧ Below w.heap.size w w' := by
  have CM := Lib.hid (fun W => rmatrixC a b c d W)
  have F0 := Lib.hid (fun (W : World) (hb : Below (w.heap.size + 1) (boxW w [cM a b c d]) W) => fun i x h => box_has [cM a b c d] hb (i := i) (c := x) h)
  have S0 : Hid ((boxW w [cM a b c d]).heap.size = w.heap.size + 1) := boxW_size [cM a b c d] w
  have B0 := Lib.hid (boxW_below [cM a b c d] w)
  unfold rordR
  cases hm : okM a b c d with
  | false =>
    rw [hm] at CM
    rw [if_neg (by decide)]
    clear hm
    go_enter Try.func42, Try.ntmps42
    go_wp2_with fail
    refine (CM.out _).mono ?_
    rintro e w1 ⟨rfl, hb1⟩
    go_wp2
    go_ret2
    exact ⟨rfl, bvia B0.out hb1⟩
  | true =>
    rw [hm] at CM
    rw [if_pos rfl]
    obtain ⟨ha, hb, hc, hd⟩ := (okM_iff a b c d).1 hm
    have CT := Lib.hid (fun p q r s (h : okS4 p q r s = true) W => rtimesC a b c d p q r s 10000 1000000 W ha hb hc hd ((okS4_iff p q r s).1 h).1 ((okS4_iff p q r s).1 h).2.1 ((okS4_iff p q r s).1 h).2.2.1 ((okS4_iff p q r s).1 h).2.2.2 (by decide))
    clear hm ha hb hc hd
    go_enter Try.func42, Try.ntmps42
    go_wp2_with fail
    refine (CM.out _).mono ?_
    rintro e w1 ⟨rfl, hb1⟩
    have B1 := Lib.hid (bvia B0.out hb1)
    have hb1' : Below (w.heap.size + 1) (boxW w [cM a b c d]) w1 := by rw [← S0.out]; exact hb1
    have z1 := hb1'.size
    rw [S0.out] at z1
    have g := F0.out _ hb1' 0 _ rfl
    have x0 : w1.cell? ⟨w.heap.size, 0, none⟩ = some (.int .i64 a) := g.cell 0
    have x1 : w1.cell? ⟨w.heap.size, 1, none⟩ = some (.int .i64 b) := g.cell 1
    have x2 : w1.cell? ⟨w.heap.size, 2, none⟩ = some (.int .i64 c) := g.cell 2
    have x3 : w1.cell? ⟨w.heap.size, 3, none⟩ = some (.int .i64 d) := g.cell 3
    have D1 := Lib.hid ((Below.refl w1.heap.size w1).alloc (Nat.le_refl _) (.cells #[.int .i64 a, .int .i64 b, .int .i64 c, .int .i64 d] 40))
    have G0 := Lib.hid (g.below D1.out g.lt)
    have G1 : Hid (Has (w1.alloc (.cells #[.int .i64 a, .int .i64 b, .int .i64 c, .int .i64 d] 40)) w1.heap.size 40 [.int .i64 a, .int .i64 b, .int .i64 c, .int .i64 d]) := Has.new rfl
    have B2 := Lib.hid (bvia B1.out D1.out)
    have hne : w.heap.size ≠ w1.heap.size := by omega
    have hle : w.heap.size ≤ w1.heap.size := by omega
    clear hb1 hb1' g F0 S0 B0 CM z1
    go_wp2
    clear x0 x1 x2 x3 D1 B1
    generalize (w1.alloc (.cells #[.int .i64 a, .int .i64 b, .int .i64 c, .int .i64 d] 40)) = W2 at *
    generalize w1.heap.size = K at *
    go_loopw [5] (fun i wr => ∃ (n : Nat) (p q r s : Int), n ≤ 12 ∧ i = .int .i64 (13 - (n : Int)) ∧ Hid (Has wr w.heap.size 40 [.int .i64 a, .int .i64 b, .int .i64 c, .int .i64 d]) ∧ Hid (Has wr K 40 [.int .i64 p, .int .i64 q, .int .i64 r, .int .i64 s]) ∧ Hid (Below w.heap.size w wr) ∧ Hid (rordN a b c d 12 1 a b c d = rordN a b c d n (13 - (n : Int)) p q r s)) (fun i _ => (13 - intOf i).toNat)
    case atStart => exact ⟨12, a, b, c, d, Nat.le_refl _, rfl, G0, G1, B2, rfl⟩
    case round =>
      clear G0 G1 B2
      obtain ⟨n, p, q, r, s, hn, hi, G0, G1, HB, HR⟩ := hrel
      obtain ⟨wo, rfl⟩ : ∃ wo : World, wo = wr := ⟨_, rfl⟩
      cases n with
      | zero =>
        rw [show (13 : Int) - ((0 : Nat) : Int) = 13 from rfl] at hi
        subst hi
        have HZ : Hid (rordN a b c d 12 1 a b c d = 0) := HR.out.trans rfl
        clear HR
        go_wp2
        go_ret2
        exact ⟨by rw [HZ.out]; rfl, HB.out⟩
      | succ n =>
        obtain ⟨k, hk⟩ : ∃ k : Int, k = 13 - ((n + 1 : Nat) : Int) := ⟨_, rfl⟩
        rw [← hk] at hi HR
        subst hi
        have hk2 : 13 - (n : Int) = k + 1 := by omega
        have jk : k ≤ 12 := by omega
        have ik : IntKind.i64.wrap (k + 1) = k + 1 := IntWalk.i64_in _ (by omega)
        have hR2 : rordN a b c d 12 1 a b c d = if okS4 p q r s = true then (if sameM p q r s 1 0 0 1 = true then k else rordN a b c d n (k + 1) (a * p + b * r) (a * q + b * s) (c * p + d * r) (c * q + d * s)) else 0 := HR.out
        have CS := Lib.hid (fun W => smallC p q r s W)
        have v0 : wo.cell? ⟨K, 0, none⟩ = some (.int .i64 p) := G1.out.cell 0
        have v1 : wo.cell? ⟨K, 1, none⟩ = some (.int .i64 q) := G1.out.cell 1
        have v2 : wo.cell? ⟨K, 2, none⟩ = some (.int .i64 r) := G1.out.cell 2
        have v3 : wo.cell? ⟨K, 3, none⟩ = some (.int .i64 s) := G1.out.cell 3
        clear HR
        cases hs : okS4 p q r s with
        | false =>
          rw [hs] at CS
          have HZ : Hid (rordN a b c d 12 1 a b c d = 0) := hR2.trans (by rw [hs]; rfl)
          clear hR2 hs hk hk2
          go_wp2_with fail
          refine (CS.out _).mono ?_
          rintro e w3 ⟨rfl, hb3⟩
          go_wp2
          go_ret2
          exact ⟨by rw [HZ.out]; rfl, bvia HB.out hb3⟩
        | true =>
          rw [hs] at CS
          rw [hs, if_pos rfl] at hR2
          have CT2 := Lib.hid (fun W => CT.out p q r s hs W)
          clear hs
          cases hsm : sameM p q r s 1 0 0 1 with
          | true =>
            have HZ : Hid (rordN a b c d 12 1 a b c d = k) := hR2.trans (by rw [hsm]; rfl)
            unfold sameM at hsm
            simp only [Bool.and_eq_true, beq_iff_eq] at hsm
            obtain ⟨rfl, rfl, rfl, rfl⟩ := hsm
            clear hR2 hk hk2
            go_wp2_with fail
            refine (CS.out _).mono ?_
            rintro e w3 ⟨rfl, hb3⟩
            have g3 := G1.out.below hb3 G1.out.lt
            have u0 : w3.cell? ⟨K, 0, none⟩ = some (.int .i64 1) := g3.cell 0
            have u1 : w3.cell? ⟨K, 1, none⟩ = some (.int .i64 0) := g3.cell 1
            have u2 : w3.cell? ⟨K, 2, none⟩ = some (.int .i64 0) := g3.cell 2
            have u3 : w3.cell? ⟨K, 3, none⟩ = some (.int .i64 1) := g3.cell 3
            clear g3
            go_wp2
            go_ret2
            exact ⟨by rw [HZ.out]; rfl, bvia HB.out hb3⟩
          | false =>
            rw [hsm, if_neg (by decide)] at hR2
            have HZ := Lib.hid hR2
            have hor : p ≠ 1 ∨ p = 1 ∧ q ≠ 0 ∨ p = 1 ∧ q = 0 ∧ r ≠ 0 ∨ p = 1 ∧ q = 0 ∧ r = 0 ∧ s ≠ 1 := by
              have hn : ¬ (p = 1 ∧ q = 0 ∧ r = 0 ∧ s = 1) := fun h => by
                rw [h.1, h.2.1, h.2.2.1, h.2.2.2] at hsm
                exact absurd hsm (by decide)
              omega
            clear hR2 hsm hk
            rcases hor with hp | ⟨rfl, hp⟩ | ⟨rfl, rfl, hp⟩ | ⟨rfl, rfl, rfl, hp⟩
            · have e1 : (p == 1) = false := beq_eq_false_iff_ne.2 hp
              clear hp
              go_wp2_with fail
              refine (CS.out _).mono ?_
              rintro e w3 ⟨rfl, hb3⟩
              have g0 := G0.out.below hb3 G0.out.lt
              have g1 := G1.out.below hb3 G1.out.lt
              have G3 := Lib.hid g0
              have G4 := Lib.hid g1
              have B3 := Lib.hid (bvia HB.out hb3)
              have x0 : w3.cell? ⟨w.heap.size, 0, none⟩ = some (.int .i64 a) := g0.cell 0
              have x1 : w3.cell? ⟨w.heap.size, 1, none⟩ = some (.int .i64 b) := g0.cell 1
              have x2 : w3.cell? ⟨w.heap.size, 2, none⟩ = some (.int .i64 c) := g0.cell 2
              have x3 : w3.cell? ⟨w.heap.size, 3, none⟩ = some (.int .i64 d) := g0.cell 3
              have u0 : w3.cell? ⟨K, 0, none⟩ = some (.int .i64 p) := g1.cell 0
              have u1 : w3.cell? ⟨K, 1, none⟩ = some (.int .i64 q) := g1.cell 1
              have u2 : w3.cell? ⟨K, 2, none⟩ = some (.int .i64 r) := g1.cell 2
              have u3 : w3.cell? ⟨K, 3, none⟩ = some (.int .i64 s) := g1.cell 3
              clear g0 g1 hb3 v0 v1 v2 v3 G0 G1 HB
              go_wp2_with fail
              refine (CT2.out _).mono ?_
              rintro e w4 ⟨rfl, hb4⟩
              have G5 := Lib.hid (G3.out.below hb4 G3.out.lt)
              have G6 := Lib.hid (G4.out.below hb4 G4.out.lt)
              have B4 := Lib.hid (bvia B3.out hb4)
              have t0 : w4.cell? ⟨K, 0, none⟩ = some (.int .i64 p) := G6.out.cell 0
              have t1 : w4.cell? ⟨K, 1, none⟩ = some (.int .i64 q) := G6.out.cell 1
              have t2 : w4.cell? ⟨K, 2, none⟩ = some (.int .i64 r) := G6.out.cell 2
              have t3 : w4.cell? ⟨K, 3, none⟩ = some (.int .i64 s) := G6.out.cell 3
              have f0 : w4.frozen? ⟨K, 0, none⟩ = false := G6.out.free 0
              have f1 : w4.frozen? ⟨K, 1, none⟩ = false := G6.out.free 1
              have f2 : w4.frozen? ⟨K, 2, none⟩ = false := G6.out.free 2
              have f3 : w4.frozen? ⟨K, 3, none⟩ = false := G6.out.free 3
              have fl := G6.out.lt
              clear hb4 G3 G4 B3 x0 x1 x2 x3 u0 u1 u2 u3
              go_wp2
              refine ⟨⟨n, _, _, _, _, by omega, by rw [hk2], Lib.hid ((((G5.out.far hne 0 _).far hne 1 _).far hne 2 _).far hne 3 _), Lib.hid ((((G6.out.set 0 _).set 1 _).set 2 _).set 3 _), Lib.hid ((((B4.out.setCell (p := ⟨K, 0, none⟩) hle _).setCell (p := ⟨K, 1, none⟩) hle _).setCell (p := ⟨K, 2, none⟩) hle _).setCell (p := ⟨K, 3, none⟩) hle _), by rw [hk2]; exact Lib.hid (by have h := HZ.out; (try simp only [Int.mul_one, Int.mul_zero, Int.add_zero, Int.zero_add] at h); exact h)⟩, ?_⟩
              first | (simp [intOf]; done) | (simp [intOf]; omega)
            · have e1 : (q == 0) = false := beq_eq_false_iff_ne.2 hp
              clear hp
              go_wp2_with fail
              refine (CS.out _).mono ?_
              rintro e w3 ⟨rfl, hb3⟩
              have g0 := G0.out.below hb3 G0.out.lt
              have g1 := G1.out.below hb3 G1.out.lt
              have G3 := Lib.hid g0
              have G4 := Lib.hid g1
              have B3 := Lib.hid (bvia HB.out hb3)
              have x0 : w3.cell? ⟨w.heap.size, 0, none⟩ = some (.int .i64 a) := g0.cell 0
              have x1 : w3.cell? ⟨w.heap.size, 1, none⟩ = some (.int .i64 b) := g0.cell 1
              have x2 : w3.cell? ⟨w.heap.size, 2, none⟩ = some (.int .i64 c) := g0.cell 2
              have x3 : w3.cell? ⟨w.heap.size, 3, none⟩ = some (.int .i64 d) := g0.cell 3
              have u0 : w3.cell? ⟨K, 0, none⟩ = some (.int .i64 1) := g1.cell 0
              have u1 : w3.cell? ⟨K, 1, none⟩ = some (.int .i64 q) := g1.cell 1
              have u2 : w3.cell? ⟨K, 2, none⟩ = some (.int .i64 r) := g1.cell 2
              have u3 : w3.cell? ⟨K, 3, none⟩ = some (.int .i64 s) := g1.cell 3
              clear g0 g1 hb3 v0 v1 v2 v3 G0 G1 HB
              go_wp2_with fail
              refine (CT2.out _).mono ?_
              rintro e w4 ⟨rfl, hb4⟩
              have G5 := Lib.hid (G3.out.below hb4 G3.out.lt)
              have G6 := Lib.hid (G4.out.below hb4 G4.out.lt)
              have B4 := Lib.hid (bvia B3.out hb4)
              have t0 : w4.cell? ⟨K, 0, none⟩ = some (.int .i64 1) := G6.out.cell 0
              have t1 : w4.cell? ⟨K, 1, none⟩ = some (.int .i64 q) := G6.out.cell 1
              have t2 : w4.cell? ⟨K, 2, none⟩ = some (.int .i64 r) := G6.out.cell 2
              have t3 : w4.cell? ⟨K, 3, none⟩ = some (.int .i64 s) := G6.out.cell 3
              have f0 : w4.frozen? ⟨K, 0, none⟩ = false := G6.out.free 0
              have f1 : w4.frozen? ⟨K, 1, none⟩ = false := G6.out.free 1
              have f2 : w4.frozen? ⟨K, 2, none⟩ = false := G6.out.free 2
              have f3 : w4.frozen? ⟨K, 3, none⟩ = false := G6.out.free 3
              have fl := G6.out.lt
              clear hb4 G3 G4 B3 x0 x1 x2 x3 u0 u1 u2 u3
              go_wp2
              refine ⟨⟨n, _, _, _, _, by omega, by rw [hk2], Lib.hid ((((G5.out.far hne 0 _).far hne 1 _).far hne 2 _).far hne 3 _), Lib.hid ((((G6.out.set 0 _).set 1 _).set 2 _).set 3 _), Lib.hid ((((B4.out.setCell (p := ⟨K, 0, none⟩) hle _).setCell (p := ⟨K, 1, none⟩) hle _).setCell (p := ⟨K, 2, none⟩) hle _).setCell (p := ⟨K, 3, none⟩) hle _), by rw [hk2]; exact Lib.hid (by have h := HZ.out; (try simp only [Int.mul_one, Int.mul_zero, Int.add_zero, Int.zero_add] at h); exact h)⟩, ?_⟩
              first | (simp [intOf]; done) | (simp [intOf]; omega)
            · have e1 : (r == 0) = false := beq_eq_false_iff_ne.2 hp
              clear hp
              go_wp2_with fail
              refine (CS.out _).mono ?_
              rintro e w3 ⟨rfl, hb3⟩
              have g0 := G0.out.below hb3 G0.out.lt
              have g1 := G1.out.below hb3 G1.out.lt
              have G3 := Lib.hid g0
              have G4 := Lib.hid g1
              have B3 := Lib.hid (bvia HB.out hb3)
              have x0 : w3.cell? ⟨w.heap.size, 0, none⟩ = some (.int .i64 a) := g0.cell 0
              have x1 : w3.cell? ⟨w.heap.size, 1, none⟩ = some (.int .i64 b) := g0.cell 1
              have x2 : w3.cell? ⟨w.heap.size, 2, none⟩ = some (.int .i64 c) := g0.cell 2
              have x3 : w3.cell? ⟨w.heap.size, 3, none⟩ = some (.int .i64 d) := g0.cell 3
              have u0 : w3.cell? ⟨K, 0, none⟩ = some (.int .i64 1) := g1.cell 0
              have u1 : w3.cell? ⟨K, 1, none⟩ = some (.int .i64 0) := g1.cell 1
              have u2 : w3.cell? ⟨K, 2, none⟩ = some (.int .i64 r) := g1.cell 2
              have u3 : w3.cell? ⟨K, 3, none⟩ = some (.int .i64 s) := g1.cell 3
              clear g0 g1 hb3 v0 v1 v2 v3 G0 G1 HB
              go_wp2_with fail
              refine (CT2.out _).mono ?_
              rintro e w4 ⟨rfl, hb4⟩
              have G5 := Lib.hid (G3.out.below hb4 G3.out.lt)
              have G6 := Lib.hid (G4.out.below hb4 G4.out.lt)
              have B4 := Lib.hid (bvia B3.out hb4)
              have t0 : w4.cell? ⟨K, 0, none⟩ = some (.int .i64 1) := G6.out.cell 0
              have t1 : w4.cell? ⟨K, 1, none⟩ = some (.int .i64 0) := G6.out.cell 1
              have t2 : w4.cell? ⟨K, 2, none⟩ = some (.int .i64 r) := G6.out.cell 2
              have t3 : w4.cell? ⟨K, 3, none⟩ = some (.int .i64 s) := G6.out.cell 3
              have f0 : w4.frozen? ⟨K, 0, none⟩ = false := G6.out.free 0
              have f1 : w4.frozen? ⟨K, 1, none⟩ = false := G6.out.free 1
              have f2 : w4.frozen? ⟨K, 2, none⟩ = false := G6.out.free 2
              have f3 : w4.frozen? ⟨K, 3, none⟩ = false := G6.out.free 3
              have fl := G6.out.lt
              clear hb4 G3 G4 B3 x0 x1 x2 x3 u0 u1 u2 u3
              go_wp2
              refine ⟨⟨n, _, _, _, _, by omega, by rw [hk2], Lib.hid ((((G5.out.far hne 0 _).far hne 1 _).far hne 2 _).far hne 3 _), Lib.hid ((((G6.out.set 0 _).set 1 _).set 2 _).set 3 _), Lib.hid ((((B4.out.setCell (p := ⟨K, 0, none⟩) hle _).setCell (p := ⟨K, 1, none⟩) hle _).setCell (p := ⟨K, 2, none⟩) hle _).setCell (p := ⟨K, 3, none⟩) hle _), by rw [hk2]; exact Lib.hid (by have h := HZ.out; (try simp only [Int.mul_one, Int.mul_zero, Int.add_zero, Int.zero_add] at h); exact h)⟩, ?_⟩
              first | (simp [intOf]; done) | (simp [intOf]; omega)
            · have e1 : (s == 1) = false := beq_eq_false_iff_ne.2 hp
              clear hp
              go_wp2_with fail
              refine (CS.out _).mono ?_
              rintro e w3 ⟨rfl, hb3⟩
              have g0 := G0.out.below hb3 G0.out.lt
              have g1 := G1.out.below hb3 G1.out.lt
              have G3 := Lib.hid g0
              have G4 := Lib.hid g1
              have B3 := Lib.hid (bvia HB.out hb3)
              have x0 : w3.cell? ⟨w.heap.size, 0, none⟩ = some (.int .i64 a) := g0.cell 0
              have x1 : w3.cell? ⟨w.heap.size, 1, none⟩ = some (.int .i64 b) := g0.cell 1
              have x2 : w3.cell? ⟨w.heap.size, 2, none⟩ = some (.int .i64 c) := g0.cell 2
              have x3 : w3.cell? ⟨w.heap.size, 3, none⟩ = some (.int .i64 d) := g0.cell 3
              have u0 : w3.cell? ⟨K, 0, none⟩ = some (.int .i64 1) := g1.cell 0
              have u1 : w3.cell? ⟨K, 1, none⟩ = some (.int .i64 0) := g1.cell 1
              have u2 : w3.cell? ⟨K, 2, none⟩ = some (.int .i64 0) := g1.cell 2
              have u3 : w3.cell? ⟨K, 3, none⟩ = some (.int .i64 s) := g1.cell 3
              clear g0 g1 hb3 v0 v1 v2 v3 G0 G1 HB
              go_wp2_with fail
              refine (CT2.out _).mono ?_
              rintro e w4 ⟨rfl, hb4⟩
              have G5 := Lib.hid (G3.out.below hb4 G3.out.lt)
              have G6 := Lib.hid (G4.out.below hb4 G4.out.lt)
              have B4 := Lib.hid (bvia B3.out hb4)
              have t0 : w4.cell? ⟨K, 0, none⟩ = some (.int .i64 1) := G6.out.cell 0
              have t1 : w4.cell? ⟨K, 1, none⟩ = some (.int .i64 0) := G6.out.cell 1
              have t2 : w4.cell? ⟨K, 2, none⟩ = some (.int .i64 0) := G6.out.cell 2
              have t3 : w4.cell? ⟨K, 3, none⟩ = some (.int .i64 s) := G6.out.cell 3
              have f0 : w4.frozen? ⟨K, 0, none⟩ = false := G6.out.free 0
              have f1 : w4.frozen? ⟨K, 1, none⟩ = false := G6.out.free 1
              have f2 : w4.frozen? ⟨K, 2, none⟩ = false := G6.out.free 2
              have f3 : w4.frozen? ⟨K, 3, none⟩ = false := G6.out.free 3
              have fl := G6.out.lt
              clear hb4 G3 G4 B3 x0 x1 x2 x3 u0 u1 u2 u3
              go_wp2
              refine ⟨⟨n, _, _, _, _, by omega, by rw [hk2], Lib.hid ((((G5.out.far hne 0 _).far hne 1 _).far hne 2 _).far hne 3 _), Lib.hid ((((G6.out.set 0 _).set 1 _).set 2 _).set 3 _), Lib.hid ((((B4.out.setCell (p := ⟨K, 0, none⟩) hle _).setCell (p := ⟨K, 1, none⟩) hle _).setCell (p := ⟨K, 2, none⟩) hle _).setCell (p := ⟨K, 3, none⟩) hle _), by rw [hk2]; exact Lib.hid (by have h := HZ.out; (try simp only [Int.mul_one, Int.mul_zero, Int.add_zero, Int.zero_add] at h); exact h)⟩, ?_⟩
              first | (simp [intOf]; done) | (simp [intOf]; omega)
end Go.Proofs.Ytmghpaibdgkbfaa
/-
  Plain law of orders of matrices.
-/
namespace Go.Proofs.Ytmghpaibdgkbfaa
namespace Od
structure Mat where
  a : Int
  b : Int
  c : Int
  d : Int
deriving DecidableEq
def mul (m n : Mat) : Mat := ⟨m.a * n.a + m.b * n.c, m.a * n.b + m.b * n.d, m.c * n.a + m.d * n.c, m.c * n.b + m.d * n.d⟩
def det (m : Mat) : Int := m.a * m.d - m.b * m.c
def one : Mat := ⟨1, 0, 0, 1⟩
def pw (m : Mat) : Nat → Mat
  | 0 => one
  | k + 1 => mul m (pw m k)
/-- m^k = p_k m - d p_(k-1) (p 0 = 0, p 1 = 1) -/
def pq (t d : Int) : Nat → Int × Int
  | 0 => (0, 1)
  | k + 1 => (t * (pq t d k).1 + (pq t d k).2, -d * (pq t d k).1)
theorem pw_pq (m : Mat) : ∀ k, pw m k = ⟨(pq (m.a + m.d) (det m) k).1 * m.a + (pq (m.a + m.d) (det m) k).2, (pq (m.a + m.d) (det m) k).1 * m.b, (pq (m.a + m.d) (det m) k).1 * m.c, (pq (m.a + m.d) (det m) k).1 * m.d + (pq (m.a + m.d) (det m) k).2⟩
  | 0 => by simp [pw, pq, one]
  | k + 1 => by
    rw [pw, pw_pq m k]
    simp only [mul, pq, Mat.mk.injEq]
    generalize (pq (m.a + m.d) (det m) k).1 = p
    generalize (pq (m.a + m.d) (det m) k).2 = q
    unfold det
    refine ⟨by grind, by grind, by grind, by grind⟩
theorem det_mul (m n : Mat) : det (mul m n) = det m * det n := by simp only [det, mul]; grind
theorem det_pw (m : Mat) : ∀ k, det (pw m (k + 1)) = det m * det (pw m k) := fun k => by rw [pw, det_mul]
/-- the program's -/
def ordP (m : Mat) : Int :=
  if m = one then 1 else if mul m m = one then 2 else if det m = 1 ∧ m.a + m.d = -1 then 3 else if det m = 1 ∧ m.a + m.d = 0 then 4 else if det m = 1 ∧ m.a + m.d = 1 then 6 else 0
theorem unit_of_pw {m : Mat} : ∀ k, det (pw m (k + 1)) = 1 ∨ det (pw m (k + 1)) = -1 → det m = 1 ∨ det m = -1 := fun k h => by
  rw [det_pw] at h
  have hd : det m ∣ 1 := by
    rcases h with h | h
    · exact ⟨_, h.symm⟩
    · exact ⟨-det (pw m k), by rw [Int.mul_neg, h]; rfl⟩
  have := Int.natAbs_dvd_natAbs.2 hd
  have h2 : (det m).natAbs = 1 := Nat.dvd_one.1 (by simpa using this)
  omega
theorem pq2 (t d : Int) (k : Nat) : (pq t d (k + 2)).1 = t * (pq t d (k + 1)).1 - d * (pq t d k).1 := by
  simp only [pq]; grind
/-- with determinant 1 and a great trace the numbers grow -/
theorem pq_grow (t : Int) (ht : 2 ≤ t ∨ t ≤ -2) : ∀ k, ((pq t 1 k).1.natAbs : Int) + 1 ≤ (pq t 1 (k + 1)).1.natAbs
  | 0 => by simp [pq]
  | k + 1 => by
    have ih := pq_grow t ht k
    rw [pq2]
    generalize (pq t 1 (k + 1)).1 = x at *
    generalize (pq t 1 k).1 = y at *
    have h : 2 * (x.natAbs : Int) ≤ ((t * x).natAbs : Int) := by
      rw [Int.natAbs_mul, Int.natCast_mul]
      exact Int.mul_le_mul_of_nonneg_right (by omega) (by omega)
    rw [Int.one_mul]
    omega
/-- with determinant -1 and a trace that is not 0 they are never 0 -/
theorem pq_neg (t : Int) (ht : t ≠ 0) : ∀ k, (pq t (-1) (k + 1)).1 ≠ 0 ∧ 0 ≤ (pq t (-1) (k + 1)).1 * (t * (pq t (-1) k).1)
  | 0 => by simp [pq]
  | k + 1 => by
    have ih := pq_neg t ht k
    have e := pq2 t (-1) k
    generalize (pq t (-1) (k + 1)).1 = x at *
    generalize (pq t (-1) k).1 = y at *
    rw [e]
    have h1 : 0 < (t * x) * (t * x) := by
      have hn : t * x ≠ 0 := fun h => by rcases Int.mul_eq_zero.1 h with h | h; exact ht h; exact ih.1 h
      rcases Int.lt_or_gt_of_ne hn with h | h
      · have := Int.mul_pos (show 0 < -(t * x) by omega) (show 0 < -(t * x) by omega); rw [Int.neg_mul_neg] at this; exact this
      · exact Int.mul_pos h h
    have h2 : (t * x - -1 * y) * (t * x) = (t * x) * (t * x) + x * (t * y) := by grind
    refine ⟨fun h => ?_, by omega⟩
    rw [h, Int.zero_mul] at h2
    omega
/-- a power that is 1: the matrix is one of those that the program knows -/
theorem ord_none {m : Mat} (h : ordP m = 0) (k : Nat) : pw m (k + 1) ≠ one := by
  intro e
  have hu : det m = 1 ∨ det m = -1 := unit_of_pw k (by rw [e]; left; rfl)
  have e2 := pw_pq m (k + 1)
  rw [e] at e2
  unfold ordP at h
  have hm : m ≠ one := fun g => by rw [if_pos g] at h; cases h
  rw [if_neg hm] at h
  have hm2 : mul m m ≠ one := fun g => by rw [if_pos g] at h; cases h
  rw [if_neg hm2] at h
  have h3 : ¬(det m = 1 ∧ m.a + m.d = -1) := fun g => by rw [if_pos g] at h; cases h
  rw [if_neg h3] at h
  have h4 : ¬(det m = 1 ∧ m.a + m.d = 0) := fun g => by rw [if_pos g] at h; cases h
  rw [if_neg h4] at h
  have h6 : ¬(det m = 1 ∧ m.a + m.d = 1) := fun g => by rw [if_pos g] at h; cases h
  clear h
  have hp : (pq (m.a + m.d) (det m) (k + 1)).1 ≠ 0 := by
    rcases hu with hu | hu
    · rw [hu]
      have := pq_grow (m.a + m.d) (by omega) k
      omega
    · rw [hu]
      refine (pq_neg (m.a + m.d) ?_ k).1
      intro ht
      apply hm2
      unfold det at hu
      unfold mul one
      simp only [Mat.mk.injEq]
      have ed : m.d = -m.a := by omega
      rw [ed] at hu ⊢
      refine ⟨by grind, by grind, by grind, by grind⟩
  simp only [one, Mat.mk.injEq] at e2
  generalize (pq (m.a + m.d) (det m) (k + 1)).1 = p at *
  generalize (pq (m.a + m.d) (det m) (k + 1)).2 = q at *
  obtain ⟨g1, g2, g3, g4⟩ := e2
  have b0 : m.b = 0 := by rcases Int.mul_eq_zero.1 g2.symm with h | h; exact absurd h hp; exact h
  have c0 : m.c = 0 := by rcases Int.mul_eq_zero.1 g3.symm with h | h; exact absurd h hp; exact h
  have ad : m.a = m.d := by
    have : p * (m.a - m.d) = 0 := by grind
    rcases Int.mul_eq_zero.1 this with h | h
    · exact absurd h hp
    · omega
  apply hm2
  unfold det at hu
  unfold mul one
  simp only [Mat.mk.injEq]
  rw [b0, c0, ← ad] at hu ⊢
  rcases hu with hu | hu
  · refine ⟨by grind, by grind, by grind, by grind⟩
  · exfalso
    have h0 : 0 ≤ m.a * m.a := by
      rcases Int.le_total 0 m.a with g | g
      · exact Int.mul_nonneg g g
      · have := Int.mul_nonneg (show 0 ≤ -m.a by omega) (show 0 ≤ -m.a by omega); rw [Int.neg_mul_neg] at this; exact this
    omega

def fits (N : Int) (m : Mat) : Prop := (-N ≤ m.a ∧ m.a ≤ N) ∧ (-N ≤ m.b ∧ m.b ≤ N) ∧ (-N ≤ m.c ∧ m.c ≤ N) ∧ (-N ≤ m.d ∧ m.d ≤ N)
/-- what the program's order says of the powers -/
theorem ord_some {m : Mat} (hf : fits 10000 m) (h : ordP m ≠ 0) : ∃ n : Nat, ordP m = n ∧ 1 ≤ n ∧ n ≤ 6 ∧ pw m n = one ∧ (∀ j, 1 ≤ j → j < n → pw m j ≠ one) ∧ (∀ j, 1 ≤ j → j ≤ n → fits 1000000 (pw m j)) := by
  have p1 : pw m 1 = m := by cases m; simp [pw, mul, one]
  have p2 : pw m 2 = mul m m := by rw [pw, p1]
  have p3 : pw m 3 = mul m (mul m m) := by rw [pw, p2]
  have p4 : pw m 4 = mul m (mul m (mul m m)) := by rw [pw, p3]
  have p5 : pw m 5 = mul m (mul m (mul m (mul m m))) := by rw [pw, p4]
  have p6 : pw m 6 = mul m (mul m (mul m (mul m (mul m m)))) := by rw [pw, p5]
  have fm : fits 1000000 m := by unfold fits at *; omega
  have fo : fits 1000000 one := by unfold fits one; simp
  unfold ordP at h ⊢
  by_cases h1 : m = one
  · rw [if_pos h1]
    exact ⟨1, rfl, by omega, by omega, by rw [p1]; exact h1, fun j a b => by omega, fun j a b => by obtain rfl : j = 1 := by omega
                                                                                                    rw [p1]; exact fm⟩
  rw [if_neg h1] at h ⊢
  by_cases h2 : mul m m = one
  · rw [if_pos h2]
    refine ⟨2, rfl, by omega, by omega, by rw [p2]; exact h2, fun j a b => ?_, fun j a b => ?_⟩
    · obtain rfl : j = 1 := by omega
      rw [p1]; exact h1
    · rcases (show j = 1 ∨ j = 2 by omega) with rfl | rfl
      · rw [p1]; exact fm
      · rw [p2, h2]; exact fo
  rw [if_neg h2] at h ⊢
  by_cases h3 : det m = 1 ∧ m.a + m.d = -1
  · rw [if_pos h3]
    obtain ⟨hd, ht⟩ := h3
    have e2 : mul m m = ⟨-m.a - 1, -m.b, -m.c, -m.d - 1⟩ := by
      unfold det at hd
      simp only [mul, Mat.mk.injEq]
      have : m.d = -1 - m.a := by omega
      rw [this] at hd ⊢
      refine ⟨by grind, by grind, by grind, by grind⟩
    refine ⟨3, rfl, by omega, by omega, ?_, fun j a b => ?_, fun j a b => ?_⟩
    · rw [p3, e2]
      unfold det at hd
      simp only [mul, one, Mat.mk.injEq]
      have : m.d = -1 - m.a := by omega
      rw [this] at hd ⊢
      refine ⟨by grind, by grind, by grind, by grind⟩
    · rcases (show j = 1 ∨ j = 2 by omega) with rfl | rfl
      · rw [p1]; exact h1
      · rw [p2]; exact h2
    · have e3 : pw m 3 = one := by
        rw [p3, e2]
        unfold det at hd
        simp only [mul, one, Mat.mk.injEq]
        have : m.d = -1 - m.a := by omega
        rw [this] at hd ⊢
        refine ⟨by grind, by grind, by grind, by grind⟩
      rcases (show j = 1 ∨ j = 2 ∨ j = 3 by omega) with rfl | rfl | rfl
      · rw [p1]; exact fm
      · rw [p2, e2]; unfold fits at *; simp only; omega
      · rw [e3]; exact fo
  rw [if_neg h3] at h ⊢
  by_cases h4 : det m = 1 ∧ m.a + m.d = 0
  · rw [if_pos h4]
    obtain ⟨hd, ht⟩ := h4
    have ed : m.d = - m.a := by omega
    have e2 : mul m m = ⟨-1, 0, 0, -1⟩ := by
      unfold det at hd
      simp only [mul, Mat.mk.injEq]
      rw [ed] at hd ⊢
      refine ⟨by grind, by grind, by grind, by grind⟩
    have e3 : pw m 3 = ⟨-m.a, -m.b, -m.c, -m.d⟩ := by
      rw [p3, e2]; simp only [mul, Mat.mk.injEq]; refine ⟨by grind, by grind, by grind, by grind⟩
    have e4 : pw m 4 = one := by
      have : pw m 4 = mul m (pw m 3) := rfl
      rw [this, e3]
      unfold det at hd
      simp only [mul, one, Mat.mk.injEq]
      rw [ed] at hd ⊢
      refine ⟨by grind, by grind, by grind, by grind⟩
    refine ⟨4, rfl, by omega, by omega, e4, fun j a b => ?_, fun j a b => ?_⟩
    · rcases (show j = 1 ∨ j = 2 ∨ j = 3 by omega) with rfl | rfl | rfl
      · rw [p1]; exact h1
      · rw [p2]; exact h2
      · rw [e3]; intro g
        simp only [one, Mat.mk.injEq] at g
        omega
    · rcases (show j = 1 ∨ j = 2 ∨ j = 3 ∨ j = 4 by omega) with rfl | rfl | rfl | rfl
      · rw [p1]; exact fm
      · rw [p2, e2]; unfold fits; simp
      · rw [e3]; unfold fits at *; simp only; omega
      · rw [e4]; exact fo
  rw [if_neg h4] at h ⊢
  by_cases h6 : det m = 1 ∧ m.a + m.d = 1
  · rw [if_pos h6]
    obtain ⟨hd, ht⟩ := h6
    have ed : m.d = 1 - m.a := by omega
    have e2 : mul m m = ⟨m.a - 1, m.b, m.c, m.d - 1⟩ := by
      unfold det at hd
      simp only [mul, Mat.mk.injEq]
      rw [ed] at hd ⊢
      refine ⟨by grind, by grind, by grind, by grind⟩
    have e3 : pw m 3 = ⟨-1, 0, 0, -1⟩ := by
      rw [p3, e2]
      unfold det at hd
      simp only [mul, Mat.mk.injEq]
      rw [ed] at hd ⊢
      refine ⟨by grind, by grind, by grind, by grind⟩
    have e4 : pw m 4 = ⟨-m.a, -m.b, -m.c, -m.d⟩ := by
      have : pw m 4 = mul m (pw m 3) := rfl
      rw [this, e3]; simp only [mul, Mat.mk.injEq]; refine ⟨by grind, by grind, by grind, by grind⟩
    have e5 : pw m 5 = ⟨1 - m.a, -m.b, -m.c, 1 - m.d⟩ := by
      have : pw m 5 = mul m (pw m 4) := rfl
      rw [this, e4]
      unfold det at hd
      simp only [mul, Mat.mk.injEq]
      rw [ed] at hd ⊢
      refine ⟨by grind, by grind, by grind, by grind⟩
    have e6 : pw m 6 = one := by
      have : pw m 6 = mul m (pw m 5) := rfl
      rw [this, e5]
      unfold det at hd
      simp only [mul, one, Mat.mk.injEq]
      rw [ed] at hd ⊢
      refine ⟨by grind, by grind, by grind, by grind⟩
    refine ⟨6, rfl, by omega, by omega, e6, fun j a b => ?_, fun j a b => ?_⟩
    · rcases (show j = 1 ∨ j = 2 ∨ j = 3 ∨ j = 4 ∨ j = 5 by omega) with rfl | rfl | rfl | rfl | rfl
      · rw [p1]; exact h1
      · rw [p2]; exact h2
      · rw [e3]; intro g
        simp only [one, Mat.mk.injEq] at g
        omega
      · rw [e4]; intro g
        simp only [one, Mat.mk.injEq] at g
        omega
      · rw [e5]; intro g
        simp only [one, Mat.mk.injEq] at g
        obtain ⟨g1, g2, g3, g4⟩ := g
        unfold det at hd
        have : m.a = 0 := by omega
        have g5 : m.b = 0 := by omega
        rw [this, g5] at hd
        simp at hd
    · rcases (show j = 1 ∨ j = 2 ∨ j = 3 ∨ j = 4 ∨ j = 5 ∨ j = 6 by omega) with rfl | rfl | rfl | rfl | rfl | rfl
      · rw [p1]; exact fm
      · rw [p2, e2]; unfold fits at *; simp only; omega
      · rw [e3]; unfold fits; simp
      · rw [e4]; unfold fits at *; simp only; omega
      · rw [e5]; unfold fits at *; simp only; omega
      · rw [e6]; exact fo
  rw [if_neg h6] at h
  exact absurd rfl h
end Od
end Go.Proofs.Ytmghpaibdgkbfaa
/-
  Plain law of Order: the program's and the document's are one.
-/
namespace Go.Proofs.Ytmghpaibdgkbfaa
theorem sameM_one (p q r s : Int) : sameM p q r s 1 0 0 1 = true ↔ (⟨p, q, r, s⟩ : Od.Mat) = Od.one := by
  unfold sameM Od.one
  simp only [Bool.and_eq_true, beq_iff_eq, Od.Mat.mk.injEq]
theorem okS4_fits (p q r s : Int) : okS4 p q r s = true ↔ Od.fits 1000000 ⟨p, q, r, s⟩ := okS4_iff p q r s
instance fitsDec (N : Int) (m : Od.Mat) : Decidable (Od.fits N m) := by unfold Od.fits; infer_instance
def roN (m : Od.Mat) : Nat → Int → Od.Mat → Int
  | 0, _, _ => 0
  | n + 1, k, p => if Od.fits 1000000 p ∧ p = Od.one then k else if Od.fits 1000000 p then roN m n (k + 1) (Od.mul m p) else 0
theorem rordN_ro (a b c d : Int) : ∀ (n : Nat) (k p q r s : Int), rordN a b c d n k p q r s = roN ⟨a, b, c, d⟩ n k ⟨p, q, r, s⟩
  | 0, _, _, _, _, _ => rfl
  | n + 1, k, p, q, r, s => by
    have ih := rordN_ro a b c d n (k + 1) (a * p + b * r) (a * q + b * s) (c * p + d * r) (c * q + d * s)
    unfold rordN roN
    by_cases h1 : Od.fits 1000000 ⟨p, q, r, s⟩
    · rw [if_pos ((okS4_fits p q r s).2 h1)]
      by_cases h2 : (⟨p, q, r, s⟩ : Od.Mat) = Od.one
      · rw [if_pos ((sameM_one p q r s).2 h2), if_pos ⟨h1, h2⟩]
      · rw [if_neg (fun h => h2 ((sameM_one p q r s).1 h)), if_neg (fun h => h2 h.2), if_pos h1]
        exact ih
    · rw [if_neg (fun h => h1 ((okS4_fits p q r s).1 h)), if_neg (fun h => h1 h.1), if_neg h1]
theorem ro_none {m : Od.Mat} (h : ∀ k, Od.pw m (k + 1) ≠ Od.one) : ∀ (n j : Nat) (k : Int), roN m n k (Od.pw m (j + 1)) = 0
  | 0, _, _ => rfl
  | n + 1, j, k => by
    unfold roN
    rw [if_neg (fun h' => h j h'.2)]
    split
    · exact ro_none h n (j + 1) (k + 1)
    · rfl
theorem ro_some {m : Od.Mat} {t : Nat} (h1 : Od.pw m t = Od.one) (h2 : ∀ j, 1 ≤ j → j < t → Od.pw m j ≠ Od.one) (h3 : ∀ j, 1 ≤ j → j ≤ t → Od.fits 1000000 (Od.pw m j)) : ∀ (n j : Nat), 1 ≤ j → j ≤ t → t < j + n → roN m n j (Od.pw m j) = t
  | 0, j, _, _, h => by omega
  | n + 1, j, hj, hjt, h => by
    unfold roN
    by_cases e : j = t
    · subst e
      rw [if_pos ⟨h3 j hj (Nat.le_refl _), h1⟩]
    · rw [if_neg (fun h' => h2 j hj (by omega) h'.2), if_pos (h3 j hj hjt)]
      have := ro_some h1 h2 h3 n (j + 1) (by omega) (by omega) (by omega)
      rw [Int.natCast_add] at this
      exact this
theorem ordV_di (a b c d : Int) : ordV (a * d - b * c) (a + d) (sameM a b c d 1 0 0 1) (sameM (a * a + b * c) (a * b + b * d) (c * a + d * c) (c * b + d * d) 1 0 0 1) = Od.ordP ⟨a, b, c, d⟩ := by
  unfold ordV Od.ordP
  have e1 := sameM_one a b c d
  have e2 : _ ↔ Od.mul ⟨a, b, c, d⟩ ⟨a, b, c, d⟩ = Od.one := sameM_one (a * a + b * c) (a * b + b * d) (c * a + d * c) (c * b + d * d)
  by_cases h1 : (⟨a, b, c, d⟩ : Od.Mat) = Od.one
  · rw [if_pos (e1.2 h1), if_pos h1]
  · rw [if_neg (fun h => h1 (e1.1 h)), if_neg h1]
    by_cases h2 : Od.mul ⟨a, b, c, d⟩ ⟨a, b, c, d⟩ = Od.one
    · rw [if_pos (e2.2 h2), if_pos h2]
    · rw [if_neg (fun h => h2 (e2.1 h)), if_neg h2]
      rfl
theorem ordR_eq (a b c d : Int) : ordR a b c d = rordR a b c d := by
  unfold ordR rordR
  cases hm : okM a b c d with
  | false => rfl
  | true =>
    rw [if_pos rfl, if_pos rfl, ordV_di, rordN_ro]
    have hf : Od.fits 10000 ⟨a, b, c, d⟩ := (okM_iff a b c d).1 hm
    have p1 : Od.pw ⟨a, b, c, d⟩ 1 = ⟨a, b, c, d⟩ := by simp [Od.pw, Od.mul, Od.one]
    by_cases h0 : Od.ordP ⟨a, b, c, d⟩ = 0
    · have := ro_none (fun k => Od.ord_none h0 k) 12 0 1
      rw [p1] at this
      rw [h0, this]
    · obtain ⟨t, e, t1, t6, h1, h2, h3⟩ := Od.ord_some hf h0
      have := ro_some h1 h2 h3 12 1 (Nat.le_refl _) t1 (by omega)
      rw [p1] at this
      rw [e]
      rw [show ((1 : Nat) : Int) = 1 from rfl] at this
      rw [this]
end Go.Proofs.Ytmghpaibdgkbfaa
