/-
  Contract of chapter 6: Order, the program's.
-/
import Derived.Test.YtmghpaibdgkbfaaVB9
import Derived.Test.YtmghpaibdgkbfaaVB10
import Derived.Test.YtmghpaibdgkbfaaVB12
import Derived.Deep.CutRange
namespace Go.Proofs.Ytmghpaibdgkbfaa
open Go.RowKit
def sameM (a b c d p q r s : Int) : Bool := a == p && (b == q && (c == r && d == s))
set_option maxRecDepth 100000 in
theorem eqM (a b c d p q r s : Int) (w : World) : (Op.equalIn 10000 40 (vM a b c d) (vM p q r s)).run Try.prog w = .ok (sameM a b c d p q r s) w := by
  have u3 := Try.underlying2
  have a3 := Try.isAgg2
  have z3 := Try.sizeOf2
  have hS : Try.prog.underlying 40 = some (.struct (Try.prog.fieldsOf 40)) := by kernel_rfl
  have hp : Try.prog.stoodInHeld 40 = false := by kernel_rfl
  rw [show (10000 : Nat) = 9999 + 1 from rfl, run_equalIn_agg w 9999 40 _ _ hS hp]
  simp only [Program.fieldsOf, Try.underlying40]
  unfold sameM
  by_cases h1 : a = p
  · subst h1
    by_cases h2 : b = q
    · subst h2
      by_cases h3 : c = r
      · subst h3
        by_cases h4 : d = s
        · subst h4
          go_simp
        · have : (d == s) = false := beq_eq_false_iff_ne.2 h4
          go_simp
      · have : (c == r) = false := beq_eq_false_iff_ne.2 h3
        go_simp
    · have : (b == q) = false := beq_eq_false_iff_ne.2 h2
      go_simp
  · have : (a == p) = false := beq_eq_false_iff_ne.2 h1
    go_simp
def ordV (D T : Int) (e1 e2 : Bool) : Int := if e1 = true then 1 else if e2 = true then 2 else if D = 1 ∧ T = -1 then 3 else if D = 1 ∧ T = 0 then 4 else if D = 1 ∧ T = 1 then 6 else 0
def ordR (a b c d : Int) : Int × Int := if okM a b c d = true then (ordV (a * d - b * c) (a + d) (sameM a b c d 1 0 0 1) (sameM (a * a + b * c) (a * b + b * d) (c * a + d * c) (c * b + d * d) 1 0 0 1), 0) else (0, 2)
set_option maxRecDepth 100000 in
set_option maxHeartbeats 2000000 in
theorem orderC (a b c d : Int) (w : World) : Calls Try.prog 41 #[vM a b c d] w fun e w' => e = .returned (.tuple #[.int .i64 (ordR a b c d).1, .int .i64 (ordR a b c d).2]) ∧ Below w.heap.size w w' := by
  have CM := Lib.hid (fun W => matrixC a b c d W)
  have F0 := Lib.hid (fun (W : World) (hb : Below (w.heap.size + 1) (boxW w [cM a b c d]) W) => fun i x h => box_has [cM a b c d] hb (i := i) (c := x) h)
  have S0 : Hid ((boxW w [cM a b c d]).heap.size = w.heap.size + 1) := boxW_size [cM a b c d] w
  have B0 := Lib.hid (boxW_below [cM a b c d] w)
  unfold ordR
  cases hm : okM a b c d with
  | false =>
    rw [hm] at CM
    rw [if_neg (by decide)]
    clear hm
    go_enter Try.func41, Try.ntmps41
    go_wp2_with fail
    refine (CM.out _).mono ?_
    rintro e w1 ⟨rfl, hb1⟩
    go_wp2
    go_ret2
    exact ⟨rfl, bvia B0.out hb1⟩
  | true =>
    rw [hm] at CM
    rw [if_pos rfl]
    obtain ⟨ha, hb, hc, hd⟩ := (okM_iff a b c d).1 hm
    have CD := Lib.hid (fun W => mdetC a b c d 10000 W ha hb hc hd (by decide))
    have CT := Lib.hid (fun W => timesC a b c d a b c d 10000 10000 W ha hb hc hd ha hb hc hd (by decide))
    have iT : IntKind.i64.wrap (a + d) = a + d := IntWalk.i64_in _ (by omega)
    have hq1 := fun W => eqM a b c d 1 0 0 1 W
    have hq2 := fun W => eqM (a * a + b * c) (a * b + b * d) (c * a + d * c) (c * b + d * d) 1 0 0 1 W
    generalize sameM a b c d 1 0 0 1 = e1 at *
    generalize sameM (a * a + b * c) (a * b + b * d) (c * a + d * c) (c * b + d * d) 1 0 0 1 = e2 at *
    generalize a * d - b * c = D at *
    generalize hT : a + d = T at *
    clear hm ha hb hc hd
    go_enter Try.func41, Try.ntmps41
    go_wp2_with fail
    refine (CM.out _).mono ?_
    rintro e w1 ⟨rfl, hb1⟩
    have B1 := Lib.hid (bvia B0.out hb1)
    have hb1' : Below (w.heap.size + 1) (boxW w [cM a b c d]) w1 := by rw [← S0.out]; exact hb1
    have z1 := hb1'.size
    rw [S0.out] at z1
    have D1 := Lib.hid ((Below.refl w1.heap.size w1).alloc (Nat.le_refl _) (.cells #[.int .i64 1, .int .i64 0, .int .i64 0, .int .i64 1] 40))
    have g0 := F0.out _ (hb1'.trans (D1.out.mono z1)) 0 _ rfl
    have g1 : Has (w1.alloc (.cells #[.int .i64 1, .int .i64 0, .int .i64 0, .int .i64 1] 40)) w1.heap.size 40 [.int .i64 1, .int .i64 0, .int .i64 0, .int .i64 1] := Has.new rfl
    have G0 := Lib.hid g0
    have G1 := Lib.hid g1
    have B2 := Lib.hid (bvia B1.out D1.out)
    clear hb1 hb1' g0 g1 F0 S0 B0
    go_wp2
    clear D1 B1 CM z1
    generalize (w1.alloc (.cells #[.int .i64 1, .int .i64 0, .int .i64 0, .int .i64 1] 40)) = W2 at *
    generalize w1.heap.size = K at *
    have x0 : W2.cell? ⟨w.heap.size, 0, none⟩ = some (.int .i64 a) := G0.out.cell 0
    have x1 : W2.cell? ⟨w.heap.size, 1, none⟩ = some (.int .i64 b) := G0.out.cell 1
    have x2 : W2.cell? ⟨w.heap.size, 2, none⟩ = some (.int .i64 c) := G0.out.cell 2
    have x3 : W2.cell? ⟨w.heap.size, 3, none⟩ = some (.int .i64 d) := G0.out.cell 3
    have y0 : W2.cell? ⟨K, 0, none⟩ = some (.int .i64 1) := G1.out.cell 0
    have y1 : W2.cell? ⟨K, 1, none⟩ = some (.int .i64 0) := G1.out.cell 1
    have y2 : W2.cell? ⟨K, 2, none⟩ = some (.int .i64 0) := G1.out.cell 2
    have y3 : W2.cell? ⟨K, 3, none⟩ = some (.int .i64 1) := G1.out.cell 3
    have q0 : w.heap.size < W2.heap.size := G0.out.lt
    have q1 : K < W2.heap.size := G1.out.lt
    have hxc := fun (x : Ext W2) => x.cell
    refine wp_region_ext (by kernel_rfl) (by kernel_rfl) ?_
    repeat (go_big_quiet_step ((go_at_call 81; exact ext_call (CD.out _))))
    refine wpQuiet_nil ?_
    intro w3 hw'
    have hb3 := ext_below hw'
    clear hw' hxc x0 x1 x2 x3 y0 y1 y2 y3 q0 q1
    have G3 := Lib.hid (G0.out.below hb3 G0.out.lt)
    have G4 := Lib.hid (G1.out.below hb3 G1.out.lt)
    have B3 := Lib.hid (bvia B2.out hb3)
    clear hb3 G0 G1 B2 CD
    have x0 : w3.cell? ⟨w.heap.size, 0, none⟩ = some (.int .i64 a) := G3.out.cell 0
    have x1 : w3.cell? ⟨w.heap.size, 1, none⟩ = some (.int .i64 b) := G3.out.cell 1
    have x2 : w3.cell? ⟨w.heap.size, 2, none⟩ = some (.int .i64 c) := G3.out.cell 2
    have x3 : w3.cell? ⟨w.heap.size, 3, none⟩ = some (.int .i64 d) := G3.out.cell 3
    have y0 : w3.cell? ⟨K, 0, none⟩ = some (.int .i64 1) := G4.out.cell 0
    have y1 : w3.cell? ⟨K, 1, none⟩ = some (.int .i64 0) := G4.out.cell 1
    have y2 : w3.cell? ⟨K, 2, none⟩ = some (.int .i64 0) := G4.out.cell 2
    have y3 : w3.cell? ⟨K, 3, none⟩ = some (.int .i64 1) := G4.out.cell 3
    have q0 : w.heap.size < w3.heap.size := G3.out.lt
    have q1 : K < w3.heap.size := G4.out.lt
    try rw [hT]
    cases e1 with
    | true =>
      go_wp2
      go_ret2
      exact ⟨rfl, B3.out⟩
    | false =>
    go_wp2
    have hxc := fun (x : Ext w3) => x.cell
    refine wp_region_ext (by kernel_rfl) (by kernel_rfl) ?_
    repeat (go_big_quiet_step ((go_at_call 65; exact ext_call (CT.out _))))
    refine wpQuiet_nil ?_
    intro w4 hw'
    have hb4 := ext_below hw'
    clear hw' hxc x0 x1 x2 x3 y0 y1 y2 y3 q0 q1
    have B4 := Lib.hid (bvia B3.out hb4)
    clear hb4 G3 G4 B3 CT
    cases e2 with
    | true =>
      go_wp2
      go_ret2
      exact ⟨rfl, B4.out⟩
    | false =>
    by_cases d1 : D = 1
    case neg =>
      have jd : (D == 1) = false := beq_eq_false_iff_ne.2 d1
      have HO : Hid (ordV D T false false = 0) := by
        show ordV D T false false = 0
        unfold ordV
        simp [d1]
      clear d1
      go_wp2
      go_ret2
      exact ⟨by rw [HO.out]; rfl, B4.out⟩
    subst d1
    by_cases t1 : T = -1
    · have HO : Hid (ordV 1 T false false = 3) := by
        show ordV 1 T false false = 3
        unfold ordV
        simp [t1]
      have jt : (T == -1) = true := by rw [t1]; rfl
      clear t1
      go_wp2
      go_ret2
      exact ⟨by rw [HO.out]; rfl, B4.out⟩
    have jt1 : (T == -1) = false := beq_eq_false_iff_ne.2 t1
    by_cases t2 : T = 0
    · have HO : Hid (ordV 1 T false false = 4) := by
        show ordV 1 T false false = 4
        unfold ordV
        simp [t2]
      have jt : (T == 0) = true := by rw [t2]; rfl
      clear t1 t2
      go_wp2
      go_ret2
      exact ⟨by rw [HO.out]; rfl, B4.out⟩
    have jt2 : (T == 0) = false := beq_eq_false_iff_ne.2 t2
    by_cases t3 : T = 1
    · have HO : Hid (ordV 1 T false false = 6) := by
        show ordV 1 T false false = 6
        unfold ordV
        simp [t3]
      have jt : (T == 1) = true := by rw [t3]; rfl
      clear t1 t2 t3
      go_wp2
      go_ret2
      exact ⟨by rw [HO.out]; rfl, B4.out⟩
    have jt3 : (T == 1) = false := beq_eq_false_iff_ne.2 t3
    have HO : Hid (ordV 1 T false false = 0) := by
      show ordV 1 T false false = 0
      unfold ordV
      simp [t1, t2, t3]
    clear t1 t2 t3
    go_wp2
    go_ret2
    exact ⟨by rw [HO.out]; rfl, B4.out⟩
end Go.Proofs.Ytmghpaibdgkbfaa
/-
  The law's examples in chapter 6: awake.
-/
namespace Go.Proofs.Ytmghpaibdgkbfaa
open Go.RowKit
set_option maxRecDepth 100000 in
theorem ptC (x y : Int) (w : World) : Calls Try.prog 29 #[.int .i64 x, .int .i64 y] w fun e w' => e = .returned (vP x y) ∧ Below w.heap.size w w' := by
  have G : Hid (Has (w.alloc (.cells #[.int .i64 x, .int .i64 y] 25)) w.heap.size 25 [.int .i64 x, .int .i64 y]) := Has.new rfl
  have B : Hid (Below w.heap.size w (w.alloc (.cells #[.int .i64 x, .int .i64 y] 25))) := (Below.refl _ _).alloc (Nat.le_refl _) _
  go_enter Try.func29, Try.ntmps29
  go_wp2
  exact post_cell G.out Try.results29 rfl rfl Try.underlying25 (by kernel_rfl) ⟨rfl, B.out⟩
set_option maxRecDepth 100000 in
theorem matC (a b c d : Int) (w : World) : Calls Try.prog 28 #[.int .i64 a, .int .i64 b, .int .i64 c, .int .i64 d] w fun e w' => e = .returned (vM a b c d) ∧ Below w.heap.size w w' := by
  have G : Hid (Has (w.alloc (.cells #[.int .i64 a, .int .i64 b, .int .i64 c, .int .i64 d] 40)) w.heap.size 40 [.int .i64 a, .int .i64 b, .int .i64 c, .int .i64 d]) := Has.new rfl
  have B : Hid (Below w.heap.size w (w.alloc (.cells #[.int .i64 a, .int .i64 b, .int .i64 c, .int .i64 d] 40))) := (Below.refl _ _).alloc (Nat.le_refl _) _
  go_enter Try.func28, Try.ntmps28
  go_wp2
  exact post_cell G.out Try.results28 rfl rfl Try.underlying40 (by kernel_rfl) ⟨rfl, B.out⟩
set_option maxRecDepth 100000 in
set_option maxHeartbeats 4000000 in
theorem awakeC (w : World) : Calls Try.prog 19 #[] w fun e w' => e = .returned (.bool true) ∧ Below w.heap.size w w' := by
  have CS : Hid (∀ W : World, Calls Try.prog 13 #[vL 2 1 2, vP 0 0, vP 1 1] W fun e w' => e = .returned (.tuple #[.int .i64 6, .int .i64 0]) ∧ Below W.heap.size W w') := fun W => by have := squareC 2 1 2 0 0 1 1 W; rw [show dotR 2 1 2 0 0 1 1 1 1 = (6, 0) by decide] at this; exact this
  have CD : Hid (∀ W : World, Calls Try.prog 20 #[vP 0 0, vP 1 0, vP 0 1] W fun e w' => e = .returned (.tuple #[.int .i64 1, .int .i64 0]) ∧ Below W.heap.size W w') := fun W => by have := sideC 0 0 1 0 0 1 W; rw [show sideR 0 0 1 0 0 1 = (1, 0) by decide] at this; exact this
  have CT : Hid (∀ W : World, Calls Try.prog 22 #[vP 0 0, vP 1 0, vP 1 (-1), vP 0 1] W fun e w' => e = .returned (.tuple #[.int .i64 1, .int .i64 0]) ∧ Below W.heap.size W w') := fun W => by have := turnC 0 0 1 0 1 (-1) 0 1 W; rw [show turnR 0 0 1 0 1 (-1) 0 1 = (1, 0) by decide] at this; exact this
  have CA : Hid (∀ W : World, Calls Try.prog 35 #[vV 0 (-1) 1 0 3 4, vP 1 2] W fun e w' => e = .returned (.tuple #[vP 1 5, .int .i64 0]) ∧ Below W.heap.size W w') := fun W => by have := applyC 0 (-1) 1 0 3 4 1 2 W; rw [show apR 0 (-1) 1 0 3 4 1 2 = (1, 5, 0) by decide] at this; exact this
  have CO : Hid (∀ W : World, Calls Try.prog 41 #[vM 1 (-1) 1 0] W fun e w' => e = .returned (.tuple #[.int .i64 6, .int .i64 0]) ∧ Below W.heap.size W w') := fun W => by have := orderC 1 (-1) 1 0 W; rw [show ordR 1 (-1) 1 0 = (6, 0) by decide] at this; exact this
  have CG := Lib.hid (fun W => groupTC 2 1 2 W (by decide))
  have CR := Lib.hid (fun W => reduceTC 5 7 10 W (by decide))
  have G0 : Hid (Has (w.alloc (.cells #[.int .i64 2, .int .i64 1, .int .i64 2] 23)) w.heap.size 23 [.int .i64 2, .int .i64 1, .int .i64 2]) := Has.new rfl
  have B : Hid (Below w.heap.size w (w.alloc (.cells #[.int .i64 2, .int .i64 1, .int .i64 2] 23))) := (Below.refl _ _).alloc (Nat.le_refl _) _
  go_enter Try.func19, Try.ntmps19
  go_upto_region 2 with (fail)
  generalize w.alloc (.cells #[.int .i64 2, .int .i64 1, .int .i64 2] 23) = W1 at *
  have c0 : W1.cell? ⟨w.heap.size, 0, none⟩ = some (.int .i64 2) := G0.out.cell 0
  have c1 : W1.cell? ⟨w.heap.size, 1, none⟩ = some (.int .i64 1) := G0.out.cell 1
  have c2 : W1.cell? ⟨w.heap.size, 2, none⟩ = some (.int .i64 2) := G0.out.cell 2
  have q0 := G0.out.lt
  have hxc := fun (x : Ext W1) => x.cell
  refine wp_region_ext (by kernel_rfl) (by kernel_rfl) ?_
  repeat (go_big_quiet_step ((first | (go_at_call 29; exact ext_call (ptC _ _ _)) | (go_at_call 13; exact ext_call (CS.out _)))))
  refine wpQuiet_nil ?_
  intro w2 hw'
  have hb2 := ext_below hw'
  clear hw' hxc c0 c1 c2 q0
  replace G0 := Lib.hid (G0.out.below hb2 G0.out.lt)
  replace B := Lib.hid (bvia B.out hb2)
  clear hb2 CS
  go_wp2_with fail
  refine (ptC _ _ _).mono ?_
  rintro e w3 ⟨rfl, hb3⟩
  replace G0 := Lib.hid (G0.out.below hb3 G0.out.lt)
  replace B := Lib.hid (bvia B.out hb3)
  clear hb3 
  go_wp2_with fail
  refine (ptC _ _ _).mono ?_
  rintro e w4 ⟨rfl, hb4⟩
  replace G0 := Lib.hid (G0.out.below hb4 G0.out.lt)
  replace B := Lib.hid (bvia B.out hb4)
  clear hb4 
  go_wp2_with fail
  refine (ptC _ _ _).mono ?_
  rintro e w5 ⟨rfl, hb5⟩
  replace G0 := Lib.hid (G0.out.below hb5 G0.out.lt)
  replace B := Lib.hid (bvia B.out hb5)
  clear hb5 
  go_wp2_with fail
  refine (CD.out _).mono ?_
  rintro e w6 ⟨rfl, hb6⟩
  replace G0 := Lib.hid (G0.out.below hb6 G0.out.lt)
  replace B := Lib.hid (bvia B.out hb6)
  clear hb6 CD
  go_wp2_with fail
  refine (ptC _ _ _).mono ?_
  rintro e w7 ⟨rfl, hb7⟩
  replace G0 := Lib.hid (G0.out.below hb7 G0.out.lt)
  replace B := Lib.hid (bvia B.out hb7)
  clear hb7 
  go_wp2_with fail
  refine (ptC _ _ _).mono ?_
  rintro e w8 ⟨rfl, hb8⟩
  replace G0 := Lib.hid (G0.out.below hb8 G0.out.lt)
  replace B := Lib.hid (bvia B.out hb8)
  clear hb8 
  go_wp2_with fail
  refine (ptC _ _ _).mono ?_
  rintro e w9 ⟨rfl, hb9⟩
  replace G0 := Lib.hid (G0.out.below hb9 G0.out.lt)
  replace B := Lib.hid (bvia B.out hb9)
  clear hb9 
  go_wp2_with fail
  refine (ptC _ _ _).mono ?_
  rintro e w10 ⟨rfl, hb10⟩
  replace G0 := Lib.hid (G0.out.below hb10 G0.out.lt)
  replace B := Lib.hid (bvia B.out hb10)
  clear hb10 
  go_wp2_with fail
  refine (CT.out _).mono ?_
  rintro e w11 ⟨rfl, hb11⟩
  replace G0 := Lib.hid (G0.out.below hb11 G0.out.lt)
  replace B := Lib.hid (bvia B.out hb11)
  clear hb11 CT
  have c0 : w11.cell? ⟨w.heap.size, 0, none⟩ = some (.int .i64 2) := G0.out.cell 0
  have c1 : w11.cell? ⟨w.heap.size, 1, none⟩ = some (.int .i64 1) := G0.out.cell 1
  have c2 : w11.cell? ⟨w.heap.size, 2, none⟩ = some (.int .i64 2) := G0.out.cell 2
  go_wp2_with fail
  refine (CG.out _).mono ?_
  rintro e w12 ⟨GQ, hb12⟩
  replace G0 := Lib.hid (G0.out.below hb12 G0.out.lt)
  replace B := Lib.hid (bvia B.out hb12)
  clear hb12 
  obtain ⟨l, m, A, cp, ms, ST, RD, HP, _, he, _⟩ := GQ
  have hlen : ms.length = 12 := by rw [HP.length_eq, List.length_map, hex_len ST RD]
  rw [hlen] at he
  subst he
  clear ST RD HP hlen G0 c0 c1 c2 CG
  go_wp2_with fail
  refine (matC _ _ _ _ _).mono ?_
  rintro e w13 ⟨rfl, hb13⟩
  replace B := Lib.hid (bvia B.out hb13)
  clear hb13 
  go_wp2_with fail
  refine (ptC _ _ _).mono ?_
  rintro e w14 ⟨rfl, hb14⟩
  replace B := Lib.hid (bvia B.out hb14)
  clear hb14 
  go_wp2_with fail
  refine (ptC _ _ _).mono ?_
  rintro e w15 ⟨rfl, hb15⟩
  replace B := Lib.hid (bvia B.out hb15)
  clear hb15 
  go_wp2_with fail
  refine (CA.out _).mono ?_
  rintro e w16 ⟨rfl, hb16⟩
  replace B := Lib.hid (bvia B.out hb16)
  clear hb16 CA
  have G1 : Hid (Has (w16.alloc (.cells #[.int .i64 1, .int .i64 5] 25)) w16.heap.size 25 [.int .i64 1, .int .i64 5]) := Has.new rfl
  replace B := Lib.hid (bvia B.out ((Below.refl _ w16).alloc (Nat.le_refl _) (.cells #[.int .i64 1, .int .i64 5] 25)))
  go_upto_region 7 with (fail)
  generalize w16.alloc (.cells #[.int .i64 1, .int .i64 5] 25) = V1 at *
  generalize w16.heap.size = K1 at *
  go_wp2_with fail
  refine (matC _ _ _ _ _).mono ?_
  rintro e w17 ⟨rfl, hb17⟩
  replace G1 := Lib.hid (G1.out.below hb17 G1.out.lt)
  replace B := Lib.hid (bvia B.out hb17)
  clear hb17 
  go_wp2_with fail
  refine (CO.out _).mono ?_
  rintro e w18 ⟨rfl, hb18⟩
  replace G1 := Lib.hid (G1.out.below hb18 G1.out.lt)
  replace B := Lib.hid (bvia B.out hb18)
  clear hb18 CO
  go_wp2_with fail
  refine (CR.out _).mono ?_
  rintro e w19 ⟨⟨l, m, ST, RD, he⟩, hb19⟩
  replace G1 := Lib.hid (G1.out.below hb19 G1.out.lt)
  replace B := Lib.hid (bvia B.out hb19)
  clear hb19 
  obtain ⟨rfl, hm⟩ := red_ex ST RD
  rw [hm] at he
  subst he
  clear ST RD hm CR
  have D1 := Lib.hid ((Below.refl w19.heap.size w19).alloc (Nat.le_refl _) (.cells #[.int .i64 1, .int .i64 0, .int .i64 1] 23))
  have D2 := Lib.hid (D1.out.alloc (by simp) (.cells #[.int .i64 (-3), .int .i64 (-1), .int .i64 2, .int .i64 1] 40))
  replace G1 := Lib.hid (G1.out.below D2.out G1.out.lt)
  have G2 : Hid (Has ((w19.alloc (.cells #[.int .i64 1, .int .i64 0, .int .i64 1] 23)).alloc (.cells #[.int .i64 (-3), .int .i64 (-1), .int .i64 2, .int .i64 1] 40)) w19.heap.size 23 [.int .i64 1, .int .i64 0, .int .i64 1]) := Has.alloc (Has.new rfl) _
  have G3 : Hid (Has ((w19.alloc (.cells #[.int .i64 1, .int .i64 0, .int .i64 1] 23)).alloc (.cells #[.int .i64 (-3), .int .i64 (-1), .int .i64 2, .int .i64 1] 40)) (w19.heap.size + 1) 40 [.int .i64 (-3), .int .i64 (-1), .int .i64 2, .int .i64 1]) := Has.new2 rfl
  replace B := Lib.hid (bvia B.out D2.out)
  clear D1 D2
  go_upto_region 9 with (fail)
  generalize ((w19.alloc (.cells #[.int .i64 1, .int .i64 0, .int .i64 1] 23)).alloc (.cells #[.int .i64 (-3), .int .i64 (-1), .int .i64 2, .int .i64 1] 40)) = V2 at *
  generalize w19.heap.size = K2 at *
  go_upto_region 11 with (fail)
  have g10 : V2.cell? ⟨K1, 0, none⟩ = some (.int .i64 1) := G1.out.cell 0
  have g11 : V2.cell? ⟨K1, 1, none⟩ = some (.int .i64 5) := G1.out.cell 1
  have qG1 := G1.out.lt
  have g20 : V2.cell? ⟨K2, 0, none⟩ = some (.int .i64 1) := G2.out.cell 0
  have g21 : V2.cell? ⟨K2, 1, none⟩ = some (.int .i64 0) := G2.out.cell 1
  have g22 : V2.cell? ⟨K2, 2, none⟩ = some (.int .i64 1) := G2.out.cell 2
  have qG2 := G2.out.lt
  have g30 : V2.cell? ⟨K2 + 1, 0, none⟩ = some (.int .i64 (-3)) := G3.out.cell 0
  have g31 : V2.cell? ⟨K2 + 1, 1, none⟩ = some (.int .i64 (-1)) := G3.out.cell 1
  have g32 : V2.cell? ⟨K2 + 1, 2, none⟩ = some (.int .i64 2) := G3.out.cell 2
  have g33 : V2.cell? ⟨K2 + 1, 3, none⟩ = some (.int .i64 1) := G3.out.cell 3
  have qG3 := G3.out.lt
  have hq1 : ∀ W, (Op.equalIn 10000 25 (vP 1 5) (vP 1 5)).run Try.prog W = .ok true W := fun W => eqPt 1 5 1 5 W
  have hq2 : ∀ W, (Op.equalIn 10000 23 (vL 1 0 1) (vL 1 0 1)).run Try.prog W = .ok true W := fun W => eqLat 1 0 1 1 0 1 W
  have hq3 : ∀ W, (Op.equalIn 10000 40 (vM (-3) (-1) 2 1) (vM (-3) (-1) 2 1)).run Try.prog W = .ok true W := fun W => eqM (-3) (-1) 2 1 (-3) (-1) 2 1 W
  have hxc := fun (x : Ext V2) => x.cell
  refine wp_region_ext (by kernel_rfl) (by kernel_rfl) ?_
  repeat (go_big_quiet_step ((first | (go_at_call 29; exact ext_call (ptC _ _ _)) | (go_at_call 28; exact ext_call (matC _ _ _ _ _)))))
  refine wpQuiet_nil ?_
  intro w9 hw'
  have hb9 := ext_below hw'
  clear hw' hxc
  go_wp2
  go_ret
  exact ⟨rfl, bvia B.out hb9⟩
end Go.Proofs.Ytmghpaibdgkbfaa
/-
  Contract of chapter 6: the document's Group (from Leading's contract, LeadOK).
-/
namespace Go.Proofs.Ytmghpaibdgkbfaa
open Go.RowKit
def LeadQ (l t : La.Lat) (e : Ending) (w' : World) : Prop := ∃ (A : Option Addr) (cp : Nat), e = .returned (.slice A (La.ldg l t).length cp) ∧ RdM4 w' w'.heap.size A (La.ldg l t)
/-- Leading answers its plain law -/
def LeadOK : Prop := ∀ (a b c p q r : Int) (w : World), okL a b c = true → (1 ≤ p ∧ p ≤ 10000) → (-10000 ≤ q ∧ q ≤ 10000) → (1 ≤ r ∧ r ≤ 10000) → Few ⟨a, b, c⟩ ⟨p, q, r⟩ →
  Calls Try.prog 69 #[vL a b c, vL p q r] w fun e w' => LeadQ ⟨a, b, c⟩ ⟨p, q, r⟩ e w' ∧ Below w.heap.size w w'
def RGroupQ (l : La.Lat) (e : Ending) (w' : World) : Prop := ∃ (A : Option Addr) (cp : Nat), e = .returned (.tuple #[.slice A (La.ldg l l).length cp, .int .i64 0]) ∧ RdM4 w' w'.heap.size A (La.ldg l l)
set_option maxRecDepth 100000 in
set_option maxHeartbeats 1000000 in
theorem rgroupNC (a b c : Int) (w : World) (h : okL a b c = false) : Calls Try.prog 31 #[vL a b c] w fun e w' => e = .returned (.tuple #[.slice none 0 0, .int .i64 2]) ∧ Below w.heap.size w w' := by
  have CC := Lib.hid (fun W => rcheckC a b c W)
  rw [show errL a b c = 2 from if_neg (by rw [h]; decide)] at CC
  clear h
  have G0 : Hid (Has (boxW w [([.int .i64 a, .int .i64 b, .int .i64 c], 23)]) (w.heap.size) 23 [.int .i64 a, .int .i64 b, .int .i64 c]) := box_has [([.int .i64 a, .int .i64 b, .int .i64 c], 23)] (w := w) (Below.refl _ _) (i := 0) rfl
  have B := Lib.hid (boxW_below [([.int .i64 a, .int .i64 b, .int .i64 c], 23)] w)
  obtain ⟨W1, hW1⟩ : ∃ W1, W1 = boxW w [([.int .i64 a, .int .i64 b, .int .i64 c], 23)] := ⟨_, rfl⟩
  rw [← hW1] at G0 B
  go_enter Try.func31, Try.ntmps31
  go_upto_region 1 with (fail)
  rw [show w.alloc (.cells #[.int .i64 a, .int .i64 b, .int .i64 c] 23) = W1 from hW1.symm]
  clear hW1
  have cG00 : W1.cell? ⟨w.heap.size, 0, none⟩ = some (.int .i64 a) := G0.out.cell 0
  have cG01 : W1.cell? ⟨w.heap.size, 1, none⟩ = some (.int .i64 b) := G0.out.cell 1
  have cG02 : W1.cell? ⟨w.heap.size, 2, none⟩ = some (.int .i64 c) := G0.out.cell 2
  go_wp2_with fail
  refine (CC.out _).mono ?_
  rintro e w1 ⟨rfl, hb1⟩
  clear cG00 cG01 cG02
  replace G0 := Lib.hid (G0.out.below hb1 G0.out.lt)
  replace B := Lib.hid (bvia B.out hb1)
  clear hb1
  go_wp2
  go_ret2
  exact ⟨rfl, B.out⟩
set_option maxRecDepth 100000 in
set_option maxHeartbeats 1000000 in
theorem rgroupTC (LD : LeadOK) (a b c : Int) (w : World) (h : okL a b c = true) (hf : Few ⟨a, b, c⟩ ⟨a, b, c⟩) : Calls Try.prog 31 #[vL a b c] w fun e w' => RGroupQ ⟨a, b, c⟩ e w' ∧ Below w.heap.size w w' := by
  have CC := Lib.hid (fun W => rcheckC a b c W)
  rw [show errL a b c = 0 from if_pos h] at CC
  have hl := (okL_iff a b c).1 h
  have CD := Lib.hid (fun W => LD a b c a b c W h ⟨by omega, by omega⟩ ⟨by omega, by omega⟩ ⟨by omega, by omega⟩ hf)
  clear h hl hf LD
  have G0 : Hid (Has (boxW w [([.int .i64 a, .int .i64 b, .int .i64 c], 23)]) (w.heap.size) 23 [.int .i64 a, .int .i64 b, .int .i64 c]) := box_has [([.int .i64 a, .int .i64 b, .int .i64 c], 23)] (w := w) (Below.refl _ _) (i := 0) rfl
  have B := Lib.hid (boxW_below [([.int .i64 a, .int .i64 b, .int .i64 c], 23)] w)
  obtain ⟨W1, hW1⟩ : ∃ W1, W1 = boxW w [([.int .i64 a, .int .i64 b, .int .i64 c], 23)] := ⟨_, rfl⟩
  rw [← hW1] at G0 B
  go_enter Try.func31, Try.ntmps31
  go_upto_region 1 with (fail)
  rw [show w.alloc (.cells #[.int .i64 a, .int .i64 b, .int .i64 c] 23) = W1 from hW1.symm]
  clear hW1
  have cG00 : W1.cell? ⟨w.heap.size, 0, none⟩ = some (.int .i64 a) := G0.out.cell 0
  have cG01 : W1.cell? ⟨w.heap.size, 1, none⟩ = some (.int .i64 b) := G0.out.cell 1
  have cG02 : W1.cell? ⟨w.heap.size, 2, none⟩ = some (.int .i64 c) := G0.out.cell 2
  go_wp2_with fail
  refine (CC.out _).mono ?_
  rintro e w1 ⟨rfl, hb1⟩
  clear cG00 cG01 cG02
  replace G0 := Lib.hid (G0.out.below hb1 G0.out.lt)
  replace B := Lib.hid (bvia B.out hb1)
  clear hb1
  have cG00 : w1.cell? ⟨w.heap.size, 0, none⟩ = some (.int .i64 a) := G0.out.cell 0
  have cG01 : w1.cell? ⟨w.heap.size, 1, none⟩ = some (.int .i64 b) := G0.out.cell 1
  have cG02 : w1.cell? ⟨w.heap.size, 2, none⟩ = some (.int .i64 c) := G0.out.cell 2
  go_wp2_with fail
  refine (CD.out _).mono ?_
  rintro e w2 ⟨LQ, hb2⟩
  clear cG00 cG01 cG02
  replace G0 := Lib.hid (G0.out.below hb2 G0.out.lt)
  replace B := Lib.hid (bvia B.out hb2)
  clear hb2
  obtain ⟨A, cp, rfl, HR⟩ := LQ
  have HR := Lib.hid HR
  go_wp2
  go_ret2
  exact ⟨⟨A, cp, rfl, HR.out⟩, B.out⟩
end Go.Proofs.Ytmghpaibdgkbfaa
/-
  Contracts of chapter 6: near and in of the law, Keeps of the program.
-/
namespace Go.Proofs.Ytmghpaibdgkbfaa
open Go.RowKit
theorem sameM_iff (a b c d p q r s : Int) : sameM a b c d p q r s = true ↔ (⟨a, b, c, d⟩ : La.Mat) = ⟨p, q, r, s⟩ := by unfold sameM; simp
set_option maxRecDepth 100000 in
set_option maxHeartbeats 1000000 in
theorem nearC (x y : Int) (w : World) : Calls Try.prog 43 #[vP x y] w fun e w' => e = .returned (vP (x.tmod 11) (y.tmod 11)) ∧ Below w.heap.size w w' := by
  have G0 : Hid (Has (boxW w [([.int .i64 x, .int .i64 y], 25), ([.int .i64 0, .int .i64 0], 25)]) (w.heap.size) 25 [.int .i64 x, .int .i64 y]) := box_has [([.int .i64 x, .int .i64 y], 25), ([.int .i64 0, .int .i64 0], 25)] (w := w) (Below.refl _ _) (i := 0) rfl
  have G1 : Hid (Has (boxW w [([.int .i64 x, .int .i64 y], 25), ([.int .i64 0, .int .i64 0], 25)]) (w.heap.size + 1) 25 [.int .i64 0, .int .i64 0]) := box_has [([.int .i64 x, .int .i64 y], 25), ([.int .i64 0, .int .i64 0], 25)] (w := w) (Below.refl _ _) (i := 1) rfl
  have B := Lib.hid (boxW_below [([.int .i64 x, .int .i64 y], 25), ([.int .i64 0, .int .i64 0], 25)] w)
  obtain ⟨W1, hW1⟩ : ∃ W1, W1 = boxW w [([.int .i64 x, .int .i64 y], 25), ([.int .i64 0, .int .i64 0], 25)] := ⟨_, rfl⟩
  rw [← hW1] at G0 G1 B
  go_enter Try.func43, Try.ntmps43
  go_upto_region 1 with (fail)
  rw [show (w.alloc (.cells #[.int .i64 x, .int .i64 y] 25)).alloc (.cells #[.int .i64 0, .int .i64 0] 25) = W1 from hW1.symm]
  clear hW1
  have cG00 : W1.cell? ⟨w.heap.size, 0, none⟩ = some (.int .i64 x) := G0.out.cell 0
  have cG01 : W1.cell? ⟨w.heap.size, 1, none⟩ = some (.int .i64 y) := G0.out.cell 1
  go_wp2_with fail
  refine (ptC _ _ _).mono ?_
  rintro e w1 ⟨rfl, hb1⟩
  clear cG00 cG01
  replace G0 := Lib.hid (G0.out.below hb1 G0.out.lt)
  replace G1 := Lib.hid (G1.out.below hb1 G1.out.lt)
  replace B := Lib.hid (bvia B.out hb1)
  clear hb1
  have cG10 : w1.cell? ⟨w.heap.size + 1, 0, none⟩ = some (.int .i64 0) := G1.out.cell 0
  have fG10 : w1.frozen? ⟨w.heap.size + 1, 0, none⟩ = false := G1.out.free 0
  have cG11 : w1.cell? ⟨w.heap.size + 1, 1, none⟩ = some (.int .i64 0) := G1.out.cell 1
  have fG11 : w1.frozen? ⟨w.heap.size + 1, 1, none⟩ = false := G1.out.free 1
  go_wp2
  refine post_cell (g := w.heap.size + 1) (t := 25) (cs := [.int .i64 (x.tmod 11), .int .i64 (y.tmod 11)]) ((G1.out.set 0 _).set 1 _) Try.results43 rfl rfl Try.underlying25 (by kernel_rfl) ⟨rfl, ?_⟩
  exact (B.out.setCell (p := ⟨w.heap.size + 1, 0, none⟩) (Nat.le_succ _) _).setCell (p := ⟨w.heap.size + 1, 1, none⟩) (Nat.le_succ _) _
set_option maxRecDepth 100000 in
set_option maxHeartbeats 2000000 in
theorem inC (A : Option Addr) (n cp : Nat) (l : List La.Mat) (p q r s : Int) (w : World) (hr : RdM4 w w.heap.size A l) (hl : l.length = n) (hn : n ≤ 1000) :
    Calls Try.prog 44 #[.slice A n cp, vM p q r s] w fun e w' => e = .returned (.bool (decide ((⟨p, q, r, s⟩ : La.Mat) ∈ l))) ∧ Below w.heap.size w w' := by
  have HR := Lib.hid hr
  have HL := Lib.hid hl
  clear hr hl
  have G0 : Hid (Has (boxW w [([.int .i64 p, .int .i64 q, .int .i64 r, .int .i64 s], 40)]) (w.heap.size) 40 [.int .i64 p, .int .i64 q, .int .i64 r, .int .i64 s]) := box_has [([.int .i64 p, .int .i64 q, .int .i64 r, .int .i64 s], 40)] (w := w) (Below.refl _ _) (i := 0) rfl
  have B := Lib.hid (boxW_below [([.int .i64 p, .int .i64 q, .int .i64 r, .int .i64 s], 40)] w)
  obtain ⟨W1, hW1⟩ : ∃ W1, W1 = boxW w [([.int .i64 p, .int .i64 q, .int .i64 r, .int .i64 s], 40)] := ⟨_, rfl⟩
  rw [← hW1] at G0 B
  go_enter Try.func44, Try.ntmps44
  go_upto_region 1 with (fail)
  rw [show w.alloc (.cells #[.int .i64 p, .int .i64 q, .int .i64 r, .int .i64 s] 40) = W1 from hW1.symm]
  clear hW1
  go_wp2
  go_loopw [5] (fun i wr => ∃ k : Nat, k ≤ n ∧ i = .int .i64 (k : Int) ∧ Hid ((⟨p, q, r, s⟩ : La.Mat) ∉ l.take k) ∧ Hid (Has wr w.heap.size 40 [.int .i64 p, .int .i64 q, .int .i64 r, .int .i64 s]) ∧ Hid (Below w.heap.size w wr)) (fun i _ => n - (intOf i).toNat)
  case atStart => exact ⟨0, Nat.zero_le _, rfl, Lib.hid (by simp), G0, B⟩
  case round =>
    clear G0 B
    obtain ⟨k, hk, rfl, HN, G0, B⟩ := hrel
    obtain ⟨W1, rfl⟩ : ∃ W1 : World, W1 = wr := ⟨_, rfl⟩
    by_cases hlt : k < n
    · have jk : (k : Int) < (n : Int) := by omega
      have ik : IntKind.i64.wrap ((k : Int) + 1) = (k : Int) + 1 := IntWalk.i64_in _ (by omega)
      obtain ⟨x, hx⟩ := get_of_lt (l := l) (k := k) (by rw [HL.out]; exact hlt)
      have HX := Lib.hid hx
      obtain ⟨b, oo, rfl, hb, x0, x1, x2, x3⟩ := HR.out k x hx
      clear hx
      obtain ⟨xa, xb, xc, xd⟩ := x
      simp only at x0 x1 x2 x3
      have hq := fun W => eqM xa xb xc xd p q r s W
      have y0 : W1.cell? ⟨b, oo + k * 4, none⟩ = some (.int .i64 xa) := (B.out.cell (p := ⟨b, _, none⟩) hb).trans x0
      have y1 : W1.cell? ⟨b, oo + k * 4 + 1, none⟩ = some (.int .i64 xb) := (B.out.cell (p := ⟨b, _, none⟩) hb).trans x1
      have y2 : W1.cell? ⟨b, oo + k * 4 + 2, none⟩ = some (.int .i64 xc) := (B.out.cell (p := ⟨b, _, none⟩) hb).trans x2
      have y3 : W1.cell? ⟨b, oo + k * 4 + 3, none⟩ = some (.int .i64 xd) := (B.out.cell (p := ⟨b, _, none⟩) hb).trans x3
      clear x0 x1 x2 x3
      have z0 : W1.cell? ⟨w.heap.size, 0, none⟩ = some (.int .i64 p) := G0.out.cell 0
      have z1 : W1.cell? ⟨w.heap.size, 1, none⟩ = some (.int .i64 q) := G0.out.cell 1
      have z2 : W1.cell? ⟨w.heap.size, 2, none⟩ = some (.int .i64 r) := G0.out.cell 2
      have z3 : W1.cell? ⟨w.heap.size, 3, none⟩ = some (.int .i64 s) := G0.out.cell 3
      have hxc := fun (x : Ext W1) => x.cell
      have q0 : b < W1.heap.size := Nat.lt_of_lt_of_le hb B.out.size
      have q1 := G0.out.lt
      have HS := Lib.hid (sameM_iff xa xb xc xd p q r s)
      generalize sameM xa xb xc xd p q r s = E at *
      go_upto_region 4 with (fail)
      refine wp_region_ext (by kernel_rfl) (by kernel_rfl) ?_
      repeat (go_big_quiet_step (fail))
      refine wpQuiet_nil ?_
      intro w3 hw'
      have hb3 := ext_below hw'
      clear hw' hxc y0 y1 y2 y3 z0 z1 z2 z3
      replace G0 := Lib.hid (G0.out.below hb3 G0.out.lt)
      replace B := Lib.hid (bvia B.out hb3)
      clear hb3 q0 q1 hq
      cases E with
      | true =>
        go_wp2
        go_ret
        refine ⟨?_, B.out⟩
        have hm : (⟨p, q, r, s⟩ : La.Mat) ∈ l := by
          rw [← HS.out.1 (by first | exact rfl | trivial)]; exact List.mem_of_getElem? HX.out
        rw [decide_eq_true hm]; rfl
      | false =>
        go_wp2
        refine ⟨⟨k + 1, hlt, by rw [Int.natCast_add]; rfl, ?_, G0, B⟩, ?_⟩
        · show _ ∉ _
          rw [List.take_add_one, HX.out]
          intro h
          rcases List.mem_append.1 h with h | h
          · exact HN.out h
          · simp only [Option.toList_some, List.mem_singleton] at h
            exact absurd (HS.out.2 h.symm) (by decide)
        · first | (simp [intOf]; done) | (simp [intOf]; omega)
    · obtain rfl : k = n := by omega
      have jk : ¬ (k : Int) < (k : Int) := by omega
      go_wp2
      go_ret
      refine ⟨?_, B.out⟩
      have hm : (⟨p, q, r, s⟩ : La.Mat) ∉ l := by
        have := HN.out
        rwa [List.take_of_length_le (by rw [HL.out]; exact Nat.le_refl _)] at this
      rw [decide_eq_false hm]; rfl
set_option maxRecDepth 100000 in
set_option maxHeartbeats 2000000 in
theorem keepsNC (a b c p q r s : Int) (w : World) (h : okL a b c = true) (hm : okM p q r s = false) : Calls Try.prog 32 #[vL a b c, vM p q r s] w fun e w' => e = .returned (.tuple #[.bool false, .int .i64 2]) ∧ Below w.heap.size w w' := by
  have CC := Lib.hid (fun W => checkC a b c W)
  rw [show errL a b c = 0 from if_pos h] at CC
  have CM := Lib.hid (fun W => matrixC p q r s W)
  rw [hm] at CM
  clear h hm
  have G0 : Hid (Has (boxW w [([.int .i64 a, .int .i64 b, .int .i64 c], 23), ([.int .i64 p, .int .i64 q, .int .i64 r, .int .i64 s], 40)]) (w.heap.size) 23 [.int .i64 a, .int .i64 b, .int .i64 c]) := box_has [([.int .i64 a, .int .i64 b, .int .i64 c], 23), ([.int .i64 p, .int .i64 q, .int .i64 r, .int .i64 s], 40)] (w := w) (Below.refl _ _) (i := 0) rfl
  have G1 : Hid (Has (boxW w [([.int .i64 a, .int .i64 b, .int .i64 c], 23), ([.int .i64 p, .int .i64 q, .int .i64 r, .int .i64 s], 40)]) (w.heap.size + 1) 40 [.int .i64 p, .int .i64 q, .int .i64 r, .int .i64 s]) := box_has [([.int .i64 a, .int .i64 b, .int .i64 c], 23), ([.int .i64 p, .int .i64 q, .int .i64 r, .int .i64 s], 40)] (w := w) (Below.refl _ _) (i := 1) rfl
  have B := Lib.hid (boxW_below [([.int .i64 a, .int .i64 b, .int .i64 c], 23), ([.int .i64 p, .int .i64 q, .int .i64 r, .int .i64 s], 40)] w)
  obtain ⟨W1, hW1⟩ : ∃ W1, W1 = boxW w [([.int .i64 a, .int .i64 b, .int .i64 c], 23), ([.int .i64 p, .int .i64 q, .int .i64 r, .int .i64 s], 40)] := ⟨_, rfl⟩
  rw [← hW1] at G0 G1 B
  go_enter Try.func32, Try.ntmps32
  go_upto_region 1 with (fail)
  rw [show (w.alloc (.cells #[.int .i64 a, .int .i64 b, .int .i64 c] 23)).alloc (.cells #[.int .i64 p, .int .i64 q, .int .i64 r, .int .i64 s] 40) = W1 from hW1.symm]
  clear hW1
  have cG00 : W1.cell? ⟨w.heap.size, 0, none⟩ = some (.int .i64 a) := G0.out.cell 0
  have cG01 : W1.cell? ⟨w.heap.size, 1, none⟩ = some (.int .i64 b) := G0.out.cell 1
  have cG02 : W1.cell? ⟨w.heap.size, 2, none⟩ = some (.int .i64 c) := G0.out.cell 2
  go_wp2_with fail
  refine (CC.out _).mono ?_
  rintro e w1 ⟨rfl, hb1⟩
  clear cG00 cG01 cG02
  replace G0 := Lib.hid (G0.out.below hb1 G0.out.lt)
  replace G1 := Lib.hid (G1.out.below hb1 G1.out.lt)
  replace B := Lib.hid (bvia B.out hb1)
  clear hb1
  have cG10 : w1.cell? ⟨w.heap.size + 1, 0, none⟩ = some (.int .i64 p) := G1.out.cell 0
  have cG11 : w1.cell? ⟨w.heap.size + 1, 1, none⟩ = some (.int .i64 q) := G1.out.cell 1
  have cG12 : w1.cell? ⟨w.heap.size + 1, 2, none⟩ = some (.int .i64 r) := G1.out.cell 2
  have cG13 : w1.cell? ⟨w.heap.size + 1, 3, none⟩ = some (.int .i64 s) := G1.out.cell 3
  go_wp2_with fail
  refine (CM.out _).mono ?_
  rintro e w2 ⟨rfl, hb2⟩
  clear cG10 cG11 cG12 cG13
  replace G0 := Lib.hid (G0.out.below hb2 G0.out.lt)
  replace G1 := Lib.hid (G1.out.below hb2 G1.out.lt)
  replace B := Lib.hid (bvia B.out hb2)
  clear hb2
  go_wp2
  go_ret2
  exact ⟨rfl, B.out⟩
set_option maxRecDepth 100000 in
set_option maxHeartbeats 2000000 in
theorem keepsC (a b c p q r s : Int) (w : World) (h : okL a b c = true) (hm : okM p q r s = true) : Calls Try.prog 32 #[vL a b c, vM p q r s] w fun e w' => e = .returned (.tuple #[.bool (decide (La.lead ⟨a, b, c⟩ ⟨p, q, r, s⟩ = ⟨a, b, c⟩)), .int .i64 0]) ∧ Below w.heap.size w w' := by
  have CC := Lib.hid (fun W => checkC a b c W)
  rw [show errL a b c = 0 from if_pos h] at CC
  have CM := Lib.hid (fun W => matrixC p q r s W)
  rw [hm] at CM
  have hl := (okL_iff a b c).1 h
  obtain ⟨fa, fb, fc, fd⟩ := (okM_iff p q r s).1 hm
  have CL := Lib.hid (fun W => leadC a b c p q r s W ⟨by omega, by omega⟩ ⟨by omega, by omega⟩ ⟨by omega, by omega⟩ ⟨by omega, by omega⟩ ⟨by omega, by omega⟩ ⟨by omega, by omega⟩ ⟨by omega, by omega⟩)
  have HLe : Hid (La.lead ⟨a, b, c⟩ ⟨p, q, r, s⟩ = ⟨prodL a b c p r p r, prodL a b c p r q s, prodL a b c q s q s⟩) := lead_eq a b c p q r s
  clear h hm hl fa fb fc fd
  have G0 : Hid (Has (boxW w [([.int .i64 a, .int .i64 b, .int .i64 c], 23), ([.int .i64 p, .int .i64 q, .int .i64 r, .int .i64 s], 40)]) (w.heap.size) 23 [.int .i64 a, .int .i64 b, .int .i64 c]) := box_has [([.int .i64 a, .int .i64 b, .int .i64 c], 23), ([.int .i64 p, .int .i64 q, .int .i64 r, .int .i64 s], 40)] (w := w) (Below.refl _ _) (i := 0) rfl
  have G1 : Hid (Has (boxW w [([.int .i64 a, .int .i64 b, .int .i64 c], 23), ([.int .i64 p, .int .i64 q, .int .i64 r, .int .i64 s], 40)]) (w.heap.size + 1) 40 [.int .i64 p, .int .i64 q, .int .i64 r, .int .i64 s]) := box_has [([.int .i64 a, .int .i64 b, .int .i64 c], 23), ([.int .i64 p, .int .i64 q, .int .i64 r, .int .i64 s], 40)] (w := w) (Below.refl _ _) (i := 1) rfl
  have B := Lib.hid (boxW_below [([.int .i64 a, .int .i64 b, .int .i64 c], 23), ([.int .i64 p, .int .i64 q, .int .i64 r, .int .i64 s], 40)] w)
  obtain ⟨W1, hW1⟩ : ∃ W1, W1 = boxW w [([.int .i64 a, .int .i64 b, .int .i64 c], 23), ([.int .i64 p, .int .i64 q, .int .i64 r, .int .i64 s], 40)] := ⟨_, rfl⟩
  rw [← hW1] at G0 G1 B
  go_enter Try.func32, Try.ntmps32
  go_upto_region 1 with (fail)
  rw [show (w.alloc (.cells #[.int .i64 a, .int .i64 b, .int .i64 c] 23)).alloc (.cells #[.int .i64 p, .int .i64 q, .int .i64 r, .int .i64 s] 40) = W1 from hW1.symm]
  clear hW1
  have cG00 : W1.cell? ⟨w.heap.size, 0, none⟩ = some (.int .i64 a) := G0.out.cell 0
  have cG01 : W1.cell? ⟨w.heap.size, 1, none⟩ = some (.int .i64 b) := G0.out.cell 1
  have cG02 : W1.cell? ⟨w.heap.size, 2, none⟩ = some (.int .i64 c) := G0.out.cell 2
  go_wp2_with fail
  refine (CC.out _).mono ?_
  rintro e w1 ⟨rfl, hb1⟩
  clear cG00 cG01 cG02
  replace G0 := Lib.hid (G0.out.below hb1 G0.out.lt)
  replace G1 := Lib.hid (G1.out.below hb1 G1.out.lt)
  replace B := Lib.hid (bvia B.out hb1)
  clear hb1
  have cG10 : w1.cell? ⟨w.heap.size + 1, 0, none⟩ = some (.int .i64 p) := G1.out.cell 0
  have cG11 : w1.cell? ⟨w.heap.size + 1, 1, none⟩ = some (.int .i64 q) := G1.out.cell 1
  have cG12 : w1.cell? ⟨w.heap.size + 1, 2, none⟩ = some (.int .i64 r) := G1.out.cell 2
  have cG13 : w1.cell? ⟨w.heap.size + 1, 3, none⟩ = some (.int .i64 s) := G1.out.cell 3
  go_wp2_with fail
  refine (CM.out _).mono ?_
  rintro e w2 ⟨rfl, hb2⟩
  clear cG10 cG11 cG12 cG13
  replace G0 := Lib.hid (G0.out.below hb2 G0.out.lt)
  replace G1 := Lib.hid (G1.out.below hb2 G1.out.lt)
  replace B := Lib.hid (bvia B.out hb2)
  clear hb2
  have cG00 : w2.cell? ⟨w.heap.size, 0, none⟩ = some (.int .i64 a) := G0.out.cell 0
  have cG01 : w2.cell? ⟨w.heap.size, 1, none⟩ = some (.int .i64 b) := G0.out.cell 1
  have cG02 : w2.cell? ⟨w.heap.size, 2, none⟩ = some (.int .i64 c) := G0.out.cell 2
  have cG10 : w2.cell? ⟨w.heap.size + 1, 0, none⟩ = some (.int .i64 p) := G1.out.cell 0
  have cG11 : w2.cell? ⟨w.heap.size + 1, 1, none⟩ = some (.int .i64 q) := G1.out.cell 1
  have cG12 : w2.cell? ⟨w.heap.size + 1, 2, none⟩ = some (.int .i64 r) := G1.out.cell 2
  have cG13 : w2.cell? ⟨w.heap.size + 1, 3, none⟩ = some (.int .i64 s) := G1.out.cell 3
  generalize prodL a b c p r p r = X, prodL a b c p r q s = Y, prodL a b c q s q s = Z at *
  have hq := fun W => eqLat X Y Z a b c W
  have HS : Hid (sameL X Y Z a b c = decide (La.lead ⟨a, b, c⟩ ⟨p, q, r, s⟩ = ⟨a, b, c⟩)) := by
    show _ = _
    rw [HLe.out]
    cases h : sameL X Y Z a b c with
    | true => rw [decide_eq_true ((sameL_iff ..).1 h)]
    | false => rw [decide_eq_false (fun e => absurd ((sameL_iff ..).2 e) (by rw [h]; decide))]
  generalize sameL X Y Z a b c = E at *
  go_upto_region 3 with (fail)
  have qG0 : w.heap.size < w2.heap.size := G0.out.lt
  have qG1 : w.heap.size + 1 < w2.heap.size := G1.out.lt
  have hxc := fun (x : Ext w2) => x.cell
  refine wp_region_ext (by kernel_rfl) (by kernel_rfl) ?_
  repeat (go_big_quiet_step ((go_at_call 73; exact ext_call (CL.out _))))
  refine wpQuiet_nil ?_
  intro w3 hw'
  have hb3 := ext_below hw'
  clear hw'
  clear cG00 cG01 cG02 cG10 cG11 cG12 cG13 qG0 qG1 hxc
  replace G0 := Lib.hid (G0.out.below hb3 G0.out.lt)
  replace G1 := Lib.hid (G1.out.below hb3 G1.out.lt)
  replace B := Lib.hid (bvia B.out hb3)
  clear hb3
  go_wp2
  go_ret2
  exact ⟨by rw [← HS.out]; rfl, B.out⟩
end Go.Proofs.Ytmghpaibdgkbfaa
