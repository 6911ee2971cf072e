/-
  The law GridsBack.
-/
import Derived.Test.YtmghpaibdgkbfaaVA17
import Derived.Deep.CutRange
namespace Go.Proofs.Ytmghpaibdgkbfaa
open Go.RowKit
set_option maxRecDepth 100000 in
set_option maxHeartbeats 16000000 in
theorem backGP (a b c d u v p q r s x y e f g h i j m n : Int) (w : World) : Calls Try.prog 12 #[.agg #[.int .i64 a, .int .i64 b, .int .i64 c, .int .i64 d, .int .i64 u, .int .i64 v, .int .i64 p, .int .i64 q, .int .i64 r, .int .i64 s, .int .i64 x, .int .i64 y, .int .i64 e, .int .i64 f, .int .i64 g, .int .i64 h, .int .i64 i, .int .i64 j], vP m n] w fun e w' => e = .returned (.bool true) ∧ Below w.heap.size w w' := by
  have C1 := Lib.hid (fun W => invertC a b c d u v W)
  have C2 := Lib.hid (fun W => applyC a b c d u v m n W)
  have C4 := Lib.hid (fun W => composeC a b c d u v p q r s x y W)
  have C5 := Lib.hid (fun W => composeC p q r s x y e f g h i j W)
  have C8 := Lib.hid (fun W => applyC p q r s x y m n W)
  obtain ⟨I1, I2, I3, I4, I5, I6, KV, hV⟩ := invR_form a b c d u v
  obtain ⟨A1, A2, A3, A4, A5, A6, KA, hA⟩ := compR_form a b c d u v p q r s x y
  obtain ⟨B1, B2, B3, B4, B5, B6, KB, hB⟩ := compR_form p q r s x y e f g h i j
  obtain ⟨⟨Q1, Q2, KQ⟩, hQ⟩ : ∃ Q, Q = apR a b c d u v m n := ⟨_, rfl⟩
  obtain ⟨⟨S1, S2, KS⟩, hS⟩ : ∃ Q, Q = apR p q r s x y m n := ⟨_, rfl⟩
  rw [hV] at C1
  rw [← hQ] at C2
  rw [hA] at C4
  rw [hB] at C5
  rw [← hS] at C8
  simp only at C1 C2 C4 C5 C8
  have C3 : Hid (KV = 0 → KQ = 0 → ∀ W : World, Calls Try.prog 35 #[vV I1 I2 I3 I4 I5 I6, vP Q1 Q2] W fun e w' => e = .returned (.tuple #[vP m n, .int .i64 0]) ∧ Below W.heap.size W w') := fun h1 h2 W => by
    subst h1 h2
    have := applyC I1 I2 I3 I4 I5 I6 Q1 Q2 W
    rw [inv_ap hV hQ.symm] at this
    exact this
  obtain ⟨J1, J2, J3, J4, J5, J6, KD, hD⟩ := compR_form A1 A2 A3 A4 A5 A6 e f g h i j
  have C6 := Lib.hid (fun W => composeC A1 A2 A3 A4 A5 A6 e f g h i j W)
  rw [hD] at C6
  have C7 : Hid (KA = 0 → KB = 0 → ∀ W : World, Calls Try.prog 37 #[vV a b c d u v, vV B1 B2 B3 B4 B5 B6] W fun e w' => e = .returned (.tuple #[vV J1 J2 J3 J4 J5 J6, .int .i64 KD]) ∧ Below W.heap.size W w') := fun h1 h2 W => by
    subst h1 h2
    have := composeC a b c d u v B1 B2 B3 B4 B5 B6 W
    rw [← comp_assoc hA hB, hD] at this
    exact this
  obtain ⟨⟨T1, T2, KT⟩, hT⟩ : ∃ Q, Q = apR A1 A2 A3 A4 A5 A6 m n := ⟨_, rfl⟩
  have C10 := Lib.hid (fun W => applyC A1 A2 A3 A4 A5 A6 m n W)
  rw [← hT] at C10
  have C9 : Hid (KA = 0 → KS = 0 → ∀ W : World, Calls Try.prog 35 #[vV a b c d u v, vP S1 S2] W fun e w' => e = .returned (.tuple #[vP T1 T2, .int .i64 KT]) ∧ Below W.heap.size W w') := fun h1 h2 W => by
    subst h1 h2
    have := applyC a b c d u v S1 S2 W
    rw [ap_comp hA hS.symm, ← hT] at this
    exact this
  obtain ⟨⟨U1, U2, KU⟩, hU⟩ : ∃ Q, Q = apR a b c d u v S1 S2 := ⟨_, rfl⟩
  have C11 := Lib.hid (fun W => applyC a b c d u v S1 S2 W)
  rw [← hU] at C11
  simp only at C6 C10 C11
  have hq1 : ∀ W, (Op.equalIn 10000 25 (vP m n) (vP m n)).run Try.prog W = .ok true W := fun W => by have := eqPt m n m n W; rw [show sameP m n m n = true by unfold sameP; simp] at this; exact this
  have hq2 : ∀ W, (Op.equalIn 10000 25 (vP T1 T2) (vP T1 T2)).run Try.prog W = .ok true W := fun W => by have := eqPt T1 T2 T1 T2 W; rw [show sameP T1 T2 T1 T2 = true by unfold sameP; simp] at this; exact this
  have hq3 := fun W => eqMove J1 J2 J3 J4 J5 J6 W
  clear hV hA hB hQ hS hD hT hU
  have G0 : Hid (Has (boxW w [([.int .i64 a, .int .i64 b, .int .i64 c, .int .i64 d, .int .i64 u, .int .i64 v, .int .i64 p, .int .i64 q, .int .i64 r, .int .i64 s, .int .i64 x, .int .i64 y, .int .i64 e, .int .i64 f, .int .i64 g, .int .i64 h, .int .i64 i, .int .i64 j], 70), ([.int .i64 m, .int .i64 n], 25)]) (w.heap.size) 70 [.int .i64 a, .int .i64 b, .int .i64 c, .int .i64 d, .int .i64 u, .int .i64 v, .int .i64 p, .int .i64 q, .int .i64 r, .int .i64 s, .int .i64 x, .int .i64 y, .int .i64 e, .int .i64 f, .int .i64 g, .int .i64 h, .int .i64 i, .int .i64 j]) := box_has [([.int .i64 a, .int .i64 b, .int .i64 c, .int .i64 d, .int .i64 u, .int .i64 v, .int .i64 p, .int .i64 q, .int .i64 r, .int .i64 s, .int .i64 x, .int .i64 y, .int .i64 e, .int .i64 f, .int .i64 g, .int .i64 h, .int .i64 i, .int .i64 j], 70), ([.int .i64 m, .int .i64 n], 25)] (w := w) (Below.refl _ _) (i := 0) rfl
  have G1 : Hid (Has (boxW w [([.int .i64 a, .int .i64 b, .int .i64 c, .int .i64 d, .int .i64 u, .int .i64 v, .int .i64 p, .int .i64 q, .int .i64 r, .int .i64 s, .int .i64 x, .int .i64 y, .int .i64 e, .int .i64 f, .int .i64 g, .int .i64 h, .int .i64 i, .int .i64 j], 70), ([.int .i64 m, .int .i64 n], 25)]) (w.heap.size + 1) 25 [.int .i64 m, .int .i64 n]) := box_has [([.int .i64 a, .int .i64 b, .int .i64 c, .int .i64 d, .int .i64 u, .int .i64 v, .int .i64 p, .int .i64 q, .int .i64 r, .int .i64 s, .int .i64 x, .int .i64 y, .int .i64 e, .int .i64 f, .int .i64 g, .int .i64 h, .int .i64 i, .int .i64 j], 70), ([.int .i64 m, .int .i64 n], 25)] (w := w) (Below.refl _ _) (i := 1) rfl
  have B := Lib.hid (boxW_below [([.int .i64 a, .int .i64 b, .int .i64 c, .int .i64 d, .int .i64 u, .int .i64 v, .int .i64 p, .int .i64 q, .int .i64 r, .int .i64 s, .int .i64 x, .int .i64 y, .int .i64 e, .int .i64 f, .int .i64 g, .int .i64 h, .int .i64 i, .int .i64 j], 70), ([.int .i64 m, .int .i64 n], 25)] w)
  obtain ⟨W1, hW1⟩ : ∃ W1, W1 = boxW w [([.int .i64 a, .int .i64 b, .int .i64 c, .int .i64 d, .int .i64 u, .int .i64 v, .int .i64 p, .int .i64 q, .int .i64 r, .int .i64 s, .int .i64 x, .int .i64 y, .int .i64 e, .int .i64 f, .int .i64 g, .int .i64 h, .int .i64 i, .int .i64 j], 70), ([.int .i64 m, .int .i64 n], 25)] := ⟨_, rfl⟩
  rw [← hW1] at G0 G1 B
  go_enter Try.func12, Try.ntmps12
  go_upto_region 1 with (fail)
  rw [show (w.alloc (.cells #[.int .i64 a, .int .i64 b, .int .i64 c, .int .i64 d, .int .i64 u, .int .i64 v, .int .i64 p, .int .i64 q, .int .i64 r, .int .i64 s, .int .i64 x, .int .i64 y, .int .i64 e, .int .i64 f, .int .i64 g, .int .i64 h, .int .i64 i, .int .i64 j] 70)).alloc (.cells #[.int .i64 m, .int .i64 n] 25) = W1 from hW1.symm]
  clear hW1
  have cG00 : W1.cell? ⟨w.heap.size, 0, none⟩ = some (.int .i64 a) := G0.out.cell 0
  have cG01 : W1.cell? ⟨w.heap.size, 1, none⟩ = some (.int .i64 b) := G0.out.cell 1
  have cG02 : W1.cell? ⟨w.heap.size, 2, none⟩ = some (.int .i64 c) := G0.out.cell 2
  have cG03 : W1.cell? ⟨w.heap.size, 3, none⟩ = some (.int .i64 d) := G0.out.cell 3
  have cG04 : W1.cell? ⟨w.heap.size, 4, none⟩ = some (.int .i64 u) := G0.out.cell 4
  have cG05 : W1.cell? ⟨w.heap.size, 5, none⟩ = some (.int .i64 v) := G0.out.cell 5
  have cG06 : W1.cell? ⟨w.heap.size, 6, none⟩ = some (.int .i64 p) := G0.out.cell 6
  have cG07 : W1.cell? ⟨w.heap.size, 7, none⟩ = some (.int .i64 q) := G0.out.cell 7
  have cG08 : W1.cell? ⟨w.heap.size, 8, none⟩ = some (.int .i64 r) := G0.out.cell 8
  have cG09 : W1.cell? ⟨w.heap.size, 9, none⟩ = some (.int .i64 s) := G0.out.cell 9
  have cG010 : W1.cell? ⟨w.heap.size, 10, none⟩ = some (.int .i64 x) := G0.out.cell 10
  have cG011 : W1.cell? ⟨w.heap.size, 11, none⟩ = some (.int .i64 y) := G0.out.cell 11
  have cG012 : W1.cell? ⟨w.heap.size, 12, none⟩ = some (.int .i64 e) := G0.out.cell 12
  have cG013 : W1.cell? ⟨w.heap.size, 13, none⟩ = some (.int .i64 f) := G0.out.cell 13
  have cG014 : W1.cell? ⟨w.heap.size, 14, none⟩ = some (.int .i64 g) := G0.out.cell 14
  have cG015 : W1.cell? ⟨w.heap.size, 15, none⟩ = some (.int .i64 h) := G0.out.cell 15
  have cG016 : W1.cell? ⟨w.heap.size, 16, none⟩ = some (.int .i64 i) := G0.out.cell 16
  have cG017 : W1.cell? ⟨w.heap.size, 17, none⟩ = some (.int .i64 j) := G0.out.cell 17
  have cG10 : W1.cell? ⟨w.heap.size + 1, 0, none⟩ = some (.int .i64 m) := G1.out.cell 0
  have cG11 : W1.cell? ⟨w.heap.size + 1, 1, none⟩ = some (.int .i64 n) := G1.out.cell 1
  go_wp2_with fail
  refine (C1.out _).mono ?_
  rintro e w1 ⟨rfl, hb1⟩
  clear cG00 cG01 cG02 cG03 cG04 cG05 cG06 cG07 cG08 cG09 cG010 cG011 cG012 cG013 cG014 cG015 cG016 cG017 cG10 cG11
  replace G0 := Lib.hid (G0.out.below hb1 G0.out.lt)
  replace G1 := Lib.hid (G1.out.below hb1 G1.out.lt)
  replace B := Lib.hid (bvia B.out hb1)
  clear hb1
  have lG0GV : w.heap.size < w1.heap.size := G0.out.lt
  have lG1GV : w.heap.size + 1 < w1.heap.size := G1.out.lt
  go_upto_region 2 with (fail)
  have D1 := Lib.hid ((Below.refl w1.heap.size w1).alloc (Nat.le_refl _) (.cells #[.int .i64 I1, .int .i64 I2, .int .i64 I3, .int .i64 I4, .int .i64 I5, .int .i64 I6] 58))
  have GV : Hid (Has (w1.alloc (.cells #[.int .i64 I1, .int .i64 I2, .int .i64 I3, .int .i64 I4, .int .i64 I5, .int .i64 I6] 58)) w1.heap.size 58 [.int .i64 I1, .int .i64 I2, .int .i64 I3, .int .i64 I4, .int .i64 I5, .int .i64 I6]) := Has.new rfl
  replace G0 := Lib.hid (G0.out.below D1.out G0.out.lt)
  replace G1 := Lib.hid (G1.out.below D1.out G1.out.lt)
  replace B := Lib.hid (bvia B.out D1.out)
  clear D1
  generalize w1.alloc (.cells #[.int .i64 I1, .int .i64 I2, .int .i64 I3, .int .i64 I4, .int .i64 I5, .int .i64 I6] 58) = V2 at *
  generalize w1.heap.size = KGV at *
  have cG00 : V2.cell? ⟨w.heap.size, 0, none⟩ = some (.int .i64 a) := G0.out.cell 0
  have cG01 : V2.cell? ⟨w.heap.size, 1, none⟩ = some (.int .i64 b) := G0.out.cell 1
  have cG02 : V2.cell? ⟨w.heap.size, 2, none⟩ = some (.int .i64 c) := G0.out.cell 2
  have cG03 : V2.cell? ⟨w.heap.size, 3, none⟩ = some (.int .i64 d) := G0.out.cell 3
  have cG04 : V2.cell? ⟨w.heap.size, 4, none⟩ = some (.int .i64 u) := G0.out.cell 4
  have cG05 : V2.cell? ⟨w.heap.size, 5, none⟩ = some (.int .i64 v) := G0.out.cell 5
  have cG06 : V2.cell? ⟨w.heap.size, 6, none⟩ = some (.int .i64 p) := G0.out.cell 6
  have cG07 : V2.cell? ⟨w.heap.size, 7, none⟩ = some (.int .i64 q) := G0.out.cell 7
  have cG08 : V2.cell? ⟨w.heap.size, 8, none⟩ = some (.int .i64 r) := G0.out.cell 8
  have cG09 : V2.cell? ⟨w.heap.size, 9, none⟩ = some (.int .i64 s) := G0.out.cell 9
  have cG010 : V2.cell? ⟨w.heap.size, 10, none⟩ = some (.int .i64 x) := G0.out.cell 10
  have cG011 : V2.cell? ⟨w.heap.size, 11, none⟩ = some (.int .i64 y) := G0.out.cell 11
  have cG012 : V2.cell? ⟨w.heap.size, 12, none⟩ = some (.int .i64 e) := G0.out.cell 12
  have cG013 : V2.cell? ⟨w.heap.size, 13, none⟩ = some (.int .i64 f) := G0.out.cell 13
  have cG014 : V2.cell? ⟨w.heap.size, 14, none⟩ = some (.int .i64 g) := G0.out.cell 14
  have cG015 : V2.cell? ⟨w.heap.size, 15, none⟩ = some (.int .i64 h) := G0.out.cell 15
  have cG016 : V2.cell? ⟨w.heap.size, 16, none⟩ = some (.int .i64 i) := G0.out.cell 16
  have cG017 : V2.cell? ⟨w.heap.size, 17, none⟩ = some (.int .i64 j) := G0.out.cell 17
  have cG10 : V2.cell? ⟨w.heap.size + 1, 0, none⟩ = some (.int .i64 m) := G1.out.cell 0
  have cG11 : V2.cell? ⟨w.heap.size + 1, 1, none⟩ = some (.int .i64 n) := G1.out.cell 1
  have cGV0 : V2.cell? ⟨KGV, 0, none⟩ = some (.int .i64 I1) := GV.out.cell 0
  have cGV1 : V2.cell? ⟨KGV, 1, none⟩ = some (.int .i64 I2) := GV.out.cell 1
  have cGV2 : V2.cell? ⟨KGV, 2, none⟩ = some (.int .i64 I3) := GV.out.cell 2
  have cGV3 : V2.cell? ⟨KGV, 3, none⟩ = some (.int .i64 I4) := GV.out.cell 3
  have cGV4 : V2.cell? ⟨KGV, 4, none⟩ = some (.int .i64 I5) := GV.out.cell 4
  have cGV5 : V2.cell? ⟨KGV, 5, none⟩ = some (.int .i64 I6) := GV.out.cell 5
  go_wp2_with fail
  refine (C2.out _).mono ?_
  rintro e w3 ⟨rfl, hb3⟩
  clear cG00 cG01 cG02 cG03 cG04 cG05 cG06 cG07 cG08 cG09 cG010 cG011 cG012 cG013 cG014 cG015 cG016 cG017 cG10 cG11 cGV0 cGV1 cGV2 cGV3 cGV4 cGV5
  replace G0 := Lib.hid (G0.out.below hb3 G0.out.lt)
  replace G1 := Lib.hid (G1.out.below hb3 G1.out.lt)
  replace GV := Lib.hid (GV.out.below hb3 GV.out.lt)
  replace B := Lib.hid (bvia B.out hb3)
  clear hb3
  have lG0GQ : w.heap.size < w3.heap.size := G0.out.lt
  have lG1GQ : w.heap.size + 1 < w3.heap.size := G1.out.lt
  have lGVGQ : KGV < w3.heap.size := GV.out.lt
  go_upto_region 3 with (fail)
  have D1 := Lib.hid ((Below.refl w3.heap.size w3).alloc (Nat.le_refl _) (.cells #[.int .i64 Q1, .int .i64 Q2] 25))
  have GQ : Hid (Has (w3.alloc (.cells #[.int .i64 Q1, .int .i64 Q2] 25)) w3.heap.size 25 [.int .i64 Q1, .int .i64 Q2]) := Has.new rfl
  replace G0 := Lib.hid (G0.out.below D1.out G0.out.lt)
  replace G1 := Lib.hid (G1.out.below D1.out G1.out.lt)
  replace GV := Lib.hid (GV.out.below D1.out GV.out.lt)
  replace B := Lib.hid (bvia B.out D1.out)
  clear D1
  generalize w3.alloc (.cells #[.int .i64 Q1, .int .i64 Q2] 25) = V4 at *
  generalize w3.heap.size = KGQ at *
  have cG10 : V4.cell? ⟨w.heap.size + 1, 0, none⟩ = some (.int .i64 m) := G1.out.cell 0
  have cG11 : V4.cell? ⟨w.heap.size + 1, 1, none⟩ = some (.int .i64 n) := G1.out.cell 1
  have cGV0 : V4.cell? ⟨KGV, 0, none⟩ = some (.int .i64 I1) := GV.out.cell 0
  have cGV1 : V4.cell? ⟨KGV, 1, none⟩ = some (.int .i64 I2) := GV.out.cell 1
  have cGV2 : V4.cell? ⟨KGV, 2, none⟩ = some (.int .i64 I3) := GV.out.cell 2
  have cGV3 : V4.cell? ⟨KGV, 3, none⟩ = some (.int .i64 I4) := GV.out.cell 3
  have cGV4 : V4.cell? ⟨KGV, 4, none⟩ = some (.int .i64 I5) := GV.out.cell 4
  have cGV5 : V4.cell? ⟨KGV, 5, none⟩ = some (.int .i64 I6) := GV.out.cell 5
  have cGQ0 : V4.cell? ⟨KGQ, 0, none⟩ = some (.int .i64 Q1) := GQ.out.cell 0
  have cGQ1 : V4.cell? ⟨KGQ, 1, none⟩ = some (.int .i64 Q2) := GQ.out.cell 1
  go_upto_region 3 with (fail)
  go_cut [41] from 36 (fun zz wx => zz = .bool (decide (KV = 0 ∧ KQ = 0)) ∧ wx = V4)
  case first =>
    by_cases h1 : KV = 0
    · by_cases h2 : KQ = 0
      · subst h1 h2
        go_wp2
        go_meet
        case rel => exact ⟨rfl, rfl⟩
      · have e1 : (KQ == 0) = false := beq_eq_false_iff_ne.2 h2
        have e2 : Hid (decide (KV = 0 ∧ KQ = 0) = false) := decide_eq_false (fun h => h2 h.2)
        have e3 : (KV == 0) = true := beq_iff_eq.2 h1
        clear h1 h2
        go_wp2
        go_meet
        case rel => exact ⟨by rw [e2.out], rfl⟩
    · have e1 : (KV == 0) = false := beq_eq_false_iff_ne.2 h1
      have e2 : Hid (decide (KV = 0 ∧ KQ = 0) = false) := decide_eq_false (fun h => h1 h.1)
      clear h1
      go_wp2
      go_meet
      case rel => exact ⟨by rw [e2.out], rfl⟩
  case rest =>
    obtain ⟨hz, rfl⟩ := hcut
    subst hz
    go_upto_if 41 with (fail)
    go_cut [2] from 5 (fun vv wx => vv = .pointer (some ⟨w.heap.size, 0, none⟩) ∧ Hid (Has wx (w.heap.size) 70 [.int .i64 a, .int .i64 b, .int .i64 c, .int .i64 d, .int .i64 u, .int .i64 v, .int .i64 p, .int .i64 q, .int .i64 r, .int .i64 s, .int .i64 x, .int .i64 y, .int .i64 e, .int .i64 f, .int .i64 g, .int .i64 h, .int .i64 i, .int .i64 j]) ∧ Hid (Has wx (w.heap.size + 1) 25 [.int .i64 m, .int .i64 n]) ∧ Hid (Below w.heap.size w wx))
    case first =>
      by_cases hvq : KV = 0 ∧ KQ = 0
      · have hd : decide (KV = 0 ∧ KQ = 0) = true := decide_eq_true hvq
        rw [hd]
        obtain ⟨h1, h2⟩ := hvq
        clear hd
        subst h1 h2
        replace C3 := Lib.hid (C3.out rfl rfl)
        go_upto_region 4 with (fail)
        go_wp2_with fail
        refine (C3.out _).mono ?_
        rintro e w5 ⟨rfl, hb5⟩
        clear cG10 cG11 cGV0 cGV1 cGV2 cGV3 cGV4 cGV5 cGQ0 cGQ1
        replace G0 := Lib.hid (G0.out.below hb5 G0.out.lt)
        replace G1 := Lib.hid (G1.out.below hb5 G1.out.lt)
        replace GV := Lib.hid (GV.out.below hb5 GV.out.lt)
        replace GQ := Lib.hid (GQ.out.below hb5 GQ.out.lt)
        replace B := Lib.hid (bvia B.out hb5)
        clear hb5
        have lG0GR : w.heap.size < w5.heap.size := G0.out.lt
        have lG1GR : w.heap.size + 1 < w5.heap.size := G1.out.lt
        have lGVGR : KGV < w5.heap.size := GV.out.lt
        have lGQGR : KGQ < w5.heap.size := GQ.out.lt
        go_upto_region 5 with (fail)
        have D1 := Lib.hid ((Below.refl w5.heap.size w5).alloc (Nat.le_refl _) (.cells #[.int .i64 m, .int .i64 n] 25))
        have GR : Hid (Has (w5.alloc (.cells #[.int .i64 m, .int .i64 n] 25)) w5.heap.size 25 [.int .i64 m, .int .i64 n]) := Has.new rfl
        replace G0 := Lib.hid (G0.out.below D1.out G0.out.lt)
        replace G1 := Lib.hid (G1.out.below D1.out G1.out.lt)
        replace GV := Lib.hid (GV.out.below D1.out GV.out.lt)
        replace GQ := Lib.hid (GQ.out.below D1.out GQ.out.lt)
        replace B := Lib.hid (bvia B.out D1.out)
        clear D1
        generalize w5.alloc (.cells #[.int .i64 m, .int .i64 n] 25) = V6 at *
        generalize w5.heap.size = KGR at *
        have cG10 : V6.cell? ⟨w.heap.size + 1, 0, none⟩ = some (.int .i64 m) := G1.out.cell 0
        have cG11 : V6.cell? ⟨w.heap.size + 1, 1, none⟩ = some (.int .i64 n) := G1.out.cell 1
        have cGR0 : V6.cell? ⟨KGR, 0, none⟩ = some (.int .i64 m) := GR.out.cell 0
        have cGR1 : V6.cell? ⟨KGR, 1, none⟩ = some (.int .i64 n) := GR.out.cell 1
        go_wp2
        go_meet
        case rel => exact ⟨rfl, G0, G1, B⟩
      · have hd : decide (KV = 0 ∧ KQ = 0) = false := decide_eq_false hvq
        rw [hd]
        clear hvq hd
        go_wp2
        go_meet
        case rel => exact ⟨rfl, G0, G1, B⟩
    case rest =>
      clear cG10 cG11 cGV0 cGV1 cGV2 cGV3 cGV4 cGV5 cGQ0 cGQ1
      clear G0 G1 GV GQ B
      obtain ⟨hv, G0, G1, B⟩ := hcut
      subst hv
      clear C1 C2 C3 lG0GV lG1GV lG0GQ lG1GQ lGVGQ
      have cG00 : wc.cell? ⟨w.heap.size, 0, none⟩ = some (.int .i64 a) := G0.out.cell 0
      have cG01 : wc.cell? ⟨w.heap.size, 1, none⟩ = some (.int .i64 b) := G0.out.cell 1
      have cG02 : wc.cell? ⟨w.heap.size, 2, none⟩ = some (.int .i64 c) := G0.out.cell 2
      have cG03 : wc.cell? ⟨w.heap.size, 3, none⟩ = some (.int .i64 d) := G0.out.cell 3
      have cG04 : wc.cell? ⟨w.heap.size, 4, none⟩ = some (.int .i64 u) := G0.out.cell 4
      have cG05 : wc.cell? ⟨w.heap.size, 5, none⟩ = some (.int .i64 v) := G0.out.cell 5
      have cG06 : wc.cell? ⟨w.heap.size, 6, none⟩ = some (.int .i64 p) := G0.out.cell 6
      have cG07 : wc.cell? ⟨w.heap.size, 7, none⟩ = some (.int .i64 q) := G0.out.cell 7
      have cG08 : wc.cell? ⟨w.heap.size, 8, none⟩ = some (.int .i64 r) := G0.out.cell 8
      have cG09 : wc.cell? ⟨w.heap.size, 9, none⟩ = some (.int .i64 s) := G0.out.cell 9
      have cG010 : wc.cell? ⟨w.heap.size, 10, none⟩ = some (.int .i64 x) := G0.out.cell 10
      have cG011 : wc.cell? ⟨w.heap.size, 11, none⟩ = some (.int .i64 y) := G0.out.cell 11
      have cG012 : wc.cell? ⟨w.heap.size, 12, none⟩ = some (.int .i64 e) := G0.out.cell 12
      have cG013 : wc.cell? ⟨w.heap.size, 13, none⟩ = some (.int .i64 f) := G0.out.cell 13
      have cG014 : wc.cell? ⟨w.heap.size, 14, none⟩ = some (.int .i64 g) := G0.out.cell 14
      have cG015 : wc.cell? ⟨w.heap.size, 15, none⟩ = some (.int .i64 h) := G0.out.cell 15
      have cG016 : wc.cell? ⟨w.heap.size, 16, none⟩ = some (.int .i64 i) := G0.out.cell 16
      have cG017 : wc.cell? ⟨w.heap.size, 17, none⟩ = some (.int .i64 j) := G0.out.cell 17
      go_wp2_with fail
      refine (C4.out _).mono ?_
      rintro e w5 ⟨rfl, hb5⟩
      clear cG00 cG01 cG02 cG03 cG04 cG05 cG06 cG07 cG08 cG09 cG010 cG011 cG012 cG013 cG014 cG015 cG016 cG017
      replace G0 := Lib.hid (G0.out.below hb5 G0.out.lt)
      replace G1 := Lib.hid (G1.out.below hb5 G1.out.lt)
      replace B := Lib.hid (bvia B.out hb5)
      clear hb5
      have lG0GA : w.heap.size < w5.heap.size := G0.out.lt
      have lG1GA : w.heap.size + 1 < w5.heap.size := G1.out.lt
      go_upto_region 8 with (fail)
      have D1 := Lib.hid ((Below.refl w5.heap.size w5).alloc (Nat.le_refl _) (.cells #[.int .i64 A1, .int .i64 A2, .int .i64 A3, .int .i64 A4, .int .i64 A5, .int .i64 A6] 58))
      have GA : Hid (Has (w5.alloc (.cells #[.int .i64 A1, .int .i64 A2, .int .i64 A3, .int .i64 A4, .int .i64 A5, .int .i64 A6] 58)) w5.heap.size 58 [.int .i64 A1, .int .i64 A2, .int .i64 A3, .int .i64 A4, .int .i64 A5, .int .i64 A6]) := Has.new rfl
      replace G0 := Lib.hid (G0.out.below D1.out G0.out.lt)
      replace G1 := Lib.hid (G1.out.below D1.out G1.out.lt)
      replace B := Lib.hid (bvia B.out D1.out)
      clear D1
      generalize w5.alloc (.cells #[.int .i64 A1, .int .i64 A2, .int .i64 A3, .int .i64 A4, .int .i64 A5, .int .i64 A6] 58) = V6 at *
      generalize w5.heap.size = KGA at *
      have cG00 : V6.cell? ⟨w.heap.size, 0, none⟩ = some (.int .i64 a) := G0.out.cell 0
      have cG01 : V6.cell? ⟨w.heap.size, 1, none⟩ = some (.int .i64 b) := G0.out.cell 1
      have cG02 : V6.cell? ⟨w.heap.size, 2, none⟩ = some (.int .i64 c) := G0.out.cell 2
      have cG03 : V6.cell? ⟨w.heap.size, 3, none⟩ = some (.int .i64 d) := G0.out.cell 3
      have cG04 : V6.cell? ⟨w.heap.size, 4, none⟩ = some (.int .i64 u) := G0.out.cell 4
      have cG05 : V6.cell? ⟨w.heap.size, 5, none⟩ = some (.int .i64 v) := G0.out.cell 5
      have cG06 : V6.cell? ⟨w.heap.size, 6, none⟩ = some (.int .i64 p) := G0.out.cell 6
      have cG07 : V6.cell? ⟨w.heap.size, 7, none⟩ = some (.int .i64 q) := G0.out.cell 7
      have cG08 : V6.cell? ⟨w.heap.size, 8, none⟩ = some (.int .i64 r) := G0.out.cell 8
      have cG09 : V6.cell? ⟨w.heap.size, 9, none⟩ = some (.int .i64 s) := G0.out.cell 9
      have cG010 : V6.cell? ⟨w.heap.size, 10, none⟩ = some (.int .i64 x) := G0.out.cell 10
      have cG011 : V6.cell? ⟨w.heap.size, 11, none⟩ = some (.int .i64 y) := G0.out.cell 11
      have cG012 : V6.cell? ⟨w.heap.size, 12, none⟩ = some (.int .i64 e) := G0.out.cell 12
      have cG013 : V6.cell? ⟨w.heap.size, 13, none⟩ = some (.int .i64 f) := G0.out.cell 13
      have cG014 : V6.cell? ⟨w.heap.size, 14, none⟩ = some (.int .i64 g) := G0.out.cell 14
      have cG015 : V6.cell? ⟨w.heap.size, 15, none⟩ = some (.int .i64 h) := G0.out.cell 15
      have cG016 : V6.cell? ⟨w.heap.size, 16, none⟩ = some (.int .i64 i) := G0.out.cell 16
      have cG017 : V6.cell? ⟨w.heap.size, 17, none⟩ = some (.int .i64 j) := G0.out.cell 17
      go_wp2_with fail
      refine (C5.out _).mono ?_
      rintro e w7 ⟨rfl, hb7⟩
      clear cG00 cG01 cG02 cG03 cG04 cG05 cG06 cG07 cG08 cG09 cG010 cG011 cG012 cG013 cG014 cG015 cG016 cG017
      replace G0 := Lib.hid (G0.out.below hb7 G0.out.lt)
      replace G1 := Lib.hid (G1.out.below hb7 G1.out.lt)
      replace GA := Lib.hid (GA.out.below hb7 GA.out.lt)
      replace B := Lib.hid (bvia B.out hb7)
      clear hb7
      have lG0GB : w.heap.size < w7.heap.size := G0.out.lt
      have lG1GB : w.heap.size + 1 < w7.heap.size := G1.out.lt
      have lGAGB : KGA < w7.heap.size := GA.out.lt
      go_upto_region 9 with (fail)
      have D1 := Lib.hid ((Below.refl w7.heap.size w7).alloc (Nat.le_refl _) (.cells #[.int .i64 B1, .int .i64 B2, .int .i64 B3, .int .i64 B4, .int .i64 B5, .int .i64 B6] 58))
      have GB : Hid (Has (w7.alloc (.cells #[.int .i64 B1, .int .i64 B2, .int .i64 B3, .int .i64 B4, .int .i64 B5, .int .i64 B6] 58)) w7.heap.size 58 [.int .i64 B1, .int .i64 B2, .int .i64 B3, .int .i64 B4, .int .i64 B5, .int .i64 B6]) := Has.new rfl
      replace G0 := Lib.hid (G0.out.below D1.out G0.out.lt)
      replace G1 := Lib.hid (G1.out.below D1.out G1.out.lt)
      replace GA := Lib.hid (GA.out.below D1.out GA.out.lt)
      replace B := Lib.hid (bvia B.out D1.out)
      clear D1
      generalize w7.alloc (.cells #[.int .i64 B1, .int .i64 B2, .int .i64 B3, .int .i64 B4, .int .i64 B5, .int .i64 B6] 58) = V8 at *
      generalize w7.heap.size = KGB at *
      clear C4 C5
      by_cases hab : KA = 0 ∧ KB = 0
      case neg =>
        have hor : (KA != 0) = true ∨ ((KA != 0) = false ∧ (KB != 0) = true) := by
          by_cases h1 : KA = 0
          · right; exact ⟨by simp [h1], bne_iff_ne.2 (fun h2 => hab ⟨h1, h2⟩)⟩
          · left; exact bne_iff_ne.2 h1
        clear hab
        rcases hor with hk1 | ⟨hk1, hk2⟩
        · go_wp2_with fail
          go_wp2_with fail
          refine (awakeC _).mono ?_
          rintro e w9 ⟨rfl, hb9⟩
          replace G0 := Lib.hid (G0.out.below hb9 G0.out.lt)
          replace G1 := Lib.hid (G1.out.below hb9 G1.out.lt)
          replace GA := Lib.hid (GA.out.below hb9 GA.out.lt)
          replace GB := Lib.hid (GB.out.below hb9 GB.out.lt)
          replace B := Lib.hid (bvia B.out hb9)
          clear hb9
          go_wp2
          go_ret
          exact ⟨rfl, B.out⟩
        · go_wp2_with fail
          go_wp2_with fail
          refine (awakeC _).mono ?_
          rintro e w9 ⟨rfl, hb9⟩
          replace G0 := Lib.hid (G0.out.below hb9 G0.out.lt)
          replace G1 := Lib.hid (G1.out.below hb9 G1.out.lt)
          replace GA := Lib.hid (GA.out.below hb9 GA.out.lt)
          replace GB := Lib.hid (GB.out.below hb9 GB.out.lt)
          replace B := Lib.hid (bvia B.out hb9)
          clear hb9
          go_wp2
          go_ret
          exact ⟨rfl, B.out⟩
      obtain ⟨ha, hb⟩ := hab
      subst ha hb
      replace C7 := Lib.hid (C7.out rfl rfl)
      replace C9 := Lib.hid (C9.out rfl)
      have cG00 : V8.cell? ⟨w.heap.size, 0, none⟩ = some (.int .i64 a) := G0.out.cell 0
      have cG01 : V8.cell? ⟨w.heap.size, 1, none⟩ = some (.int .i64 b) := G0.out.cell 1
      have cG02 : V8.cell? ⟨w.heap.size, 2, none⟩ = some (.int .i64 c) := G0.out.cell 2
      have cG03 : V8.cell? ⟨w.heap.size, 3, none⟩ = some (.int .i64 d) := G0.out.cell 3
      have cG04 : V8.cell? ⟨w.heap.size, 4, none⟩ = some (.int .i64 u) := G0.out.cell 4
      have cG05 : V8.cell? ⟨w.heap.size, 5, none⟩ = some (.int .i64 v) := G0.out.cell 5
      have cG06 : V8.cell? ⟨w.heap.size, 6, none⟩ = some (.int .i64 p) := G0.out.cell 6
      have cG07 : V8.cell? ⟨w.heap.size, 7, none⟩ = some (.int .i64 q) := G0.out.cell 7
      have cG08 : V8.cell? ⟨w.heap.size, 8, none⟩ = some (.int .i64 r) := G0.out.cell 8
      have cG09 : V8.cell? ⟨w.heap.size, 9, none⟩ = some (.int .i64 s) := G0.out.cell 9
      have cG010 : V8.cell? ⟨w.heap.size, 10, none⟩ = some (.int .i64 x) := G0.out.cell 10
      have cG011 : V8.cell? ⟨w.heap.size, 11, none⟩ = some (.int .i64 y) := G0.out.cell 11
      have cG012 : V8.cell? ⟨w.heap.size, 12, none⟩ = some (.int .i64 e) := G0.out.cell 12
      have cG013 : V8.cell? ⟨w.heap.size, 13, none⟩ = some (.int .i64 f) := G0.out.cell 13
      have cG014 : V8.cell? ⟨w.heap.size, 14, none⟩ = some (.int .i64 g) := G0.out.cell 14
      have cG015 : V8.cell? ⟨w.heap.size, 15, none⟩ = some (.int .i64 h) := G0.out.cell 15
      have cG016 : V8.cell? ⟨w.heap.size, 16, none⟩ = some (.int .i64 i) := G0.out.cell 16
      have cG017 : V8.cell? ⟨w.heap.size, 17, none⟩ = some (.int .i64 j) := G0.out.cell 17
      have cGA0 : V8.cell? ⟨KGA, 0, none⟩ = some (.int .i64 A1) := GA.out.cell 0
      have cGA1 : V8.cell? ⟨KGA, 1, none⟩ = some (.int .i64 A2) := GA.out.cell 1
      have cGA2 : V8.cell? ⟨KGA, 2, none⟩ = some (.int .i64 A3) := GA.out.cell 2
      have cGA3 : V8.cell? ⟨KGA, 3, none⟩ = some (.int .i64 A4) := GA.out.cell 3
      have cGA4 : V8.cell? ⟨KGA, 4, none⟩ = some (.int .i64 A5) := GA.out.cell 4
      have cGA5 : V8.cell? ⟨KGA, 5, none⟩ = some (.int .i64 A6) := GA.out.cell 5
      go_upto_region 11 with (fail)
      go_wp2_with fail
      refine (C6.out _).mono ?_
      rintro e w9 ⟨rfl, hb9⟩
      clear cG00 cG01 cG02 cG03 cG04 cG05 cG06 cG07 cG08 cG09 cG010 cG011 cG012 cG013 cG014 cG015 cG016 cG017 cGA0 cGA1 cGA2 cGA3 cGA4 cGA5
      replace G0 := Lib.hid (G0.out.below hb9 G0.out.lt)
      replace G1 := Lib.hid (G1.out.below hb9 G1.out.lt)
      replace GA := Lib.hid (GA.out.below hb9 GA.out.lt)
      replace GB := Lib.hid (GB.out.below hb9 GB.out.lt)
      replace B := Lib.hid (bvia B.out hb9)
      clear hb9
      have lG0GC : w.heap.size < w9.heap.size := G0.out.lt
      have lG1GC : w.heap.size + 1 < w9.heap.size := G1.out.lt
      have lGAGC : KGA < w9.heap.size := GA.out.lt
      have lGBGC : KGB < w9.heap.size := GB.out.lt
      go_upto_region 12 with (fail)
      have D1 := Lib.hid ((Below.refl w9.heap.size w9).alloc (Nat.le_refl _) (.cells #[.int .i64 J1, .int .i64 J2, .int .i64 J3, .int .i64 J4, .int .i64 J5, .int .i64 J6] 58))
      have GC : Hid (Has (w9.alloc (.cells #[.int .i64 J1, .int .i64 J2, .int .i64 J3, .int .i64 J4, .int .i64 J5, .int .i64 J6] 58)) w9.heap.size 58 [.int .i64 J1, .int .i64 J2, .int .i64 J3, .int .i64 J4, .int .i64 J5, .int .i64 J6]) := Has.new rfl
      replace G0 := Lib.hid (G0.out.below D1.out G0.out.lt)
      replace G1 := Lib.hid (G1.out.below D1.out G1.out.lt)
      replace GA := Lib.hid (GA.out.below D1.out GA.out.lt)
      replace GB := Lib.hid (GB.out.below D1.out GB.out.lt)
      replace B := Lib.hid (bvia B.out D1.out)
      clear D1
      generalize w9.alloc (.cells #[.int .i64 J1, .int .i64 J2, .int .i64 J3, .int .i64 J4, .int .i64 J5, .int .i64 J6] 58) = V10 at *
      generalize w9.heap.size = KGC at *
      have cG00 : V10.cell? ⟨w.heap.size, 0, none⟩ = some (.int .i64 a) := G0.out.cell 0
      have cG01 : V10.cell? ⟨w.heap.size, 1, none⟩ = some (.int .i64 b) := G0.out.cell 1
      have cG02 : V10.cell? ⟨w.heap.size, 2, none⟩ = some (.int .i64 c) := G0.out.cell 2
      have cG03 : V10.cell? ⟨w.heap.size, 3, none⟩ = some (.int .i64 d) := G0.out.cell 3
      have cG04 : V10.cell? ⟨w.heap.size, 4, none⟩ = some (.int .i64 u) := G0.out.cell 4
      have cG05 : V10.cell? ⟨w.heap.size, 5, none⟩ = some (.int .i64 v) := G0.out.cell 5
      have cG06 : V10.cell? ⟨w.heap.size, 6, none⟩ = some (.int .i64 p) := G0.out.cell 6
      have cG07 : V10.cell? ⟨w.heap.size, 7, none⟩ = some (.int .i64 q) := G0.out.cell 7
      have cG08 : V10.cell? ⟨w.heap.size, 8, none⟩ = some (.int .i64 r) := G0.out.cell 8
      have cG09 : V10.cell? ⟨w.heap.size, 9, none⟩ = some (.int .i64 s) := G0.out.cell 9
      have cG010 : V10.cell? ⟨w.heap.size, 10, none⟩ = some (.int .i64 x) := G0.out.cell 10
      have cG011 : V10.cell? ⟨w.heap.size, 11, none⟩ = some (.int .i64 y) := G0.out.cell 11
      have cG012 : V10.cell? ⟨w.heap.size, 12, none⟩ = some (.int .i64 e) := G0.out.cell 12
      have cG013 : V10.cell? ⟨w.heap.size, 13, none⟩ = some (.int .i64 f) := G0.out.cell 13
      have cG014 : V10.cell? ⟨w.heap.size, 14, none⟩ = some (.int .i64 g) := G0.out.cell 14
      have cG015 : V10.cell? ⟨w.heap.size, 15, none⟩ = some (.int .i64 h) := G0.out.cell 15
      have cG016 : V10.cell? ⟨w.heap.size, 16, none⟩ = some (.int .i64 i) := G0.out.cell 16
      have cG017 : V10.cell? ⟨w.heap.size, 17, none⟩ = some (.int .i64 j) := G0.out.cell 17
      have cGB0 : V10.cell? ⟨KGB, 0, none⟩ = some (.int .i64 B1) := GB.out.cell 0
      have cGB1 : V10.cell? ⟨KGB, 1, none⟩ = some (.int .i64 B2) := GB.out.cell 1
      have cGB2 : V10.cell? ⟨KGB, 2, none⟩ = some (.int .i64 B3) := GB.out.cell 2
      have cGB3 : V10.cell? ⟨KGB, 3, none⟩ = some (.int .i64 B4) := GB.out.cell 3
      have cGB4 : V10.cell? ⟨KGB, 4, none⟩ = some (.int .i64 B5) := GB.out.cell 4
      have cGB5 : V10.cell? ⟨KGB, 5, none⟩ = some (.int .i64 B6) := GB.out.cell 5
      go_wp2_with fail
      refine (C7.out _).mono ?_
      rintro e w11 ⟨rfl, hb11⟩
      clear cG00 cG01 cG02 cG03 cG04 cG05 cG06 cG07 cG08 cG09 cG010 cG011 cG012 cG013 cG014 cG015 cG016 cG017 cGB0 cGB1 cGB2 cGB3 cGB4 cGB5
      replace G0 := Lib.hid (G0.out.below hb11 G0.out.lt)
      replace G1 := Lib.hid (G1.out.below hb11 G1.out.lt)
      replace GA := Lib.hid (GA.out.below hb11 GA.out.lt)
      replace GB := Lib.hid (GB.out.below hb11 GB.out.lt)
      replace GC := Lib.hid (GC.out.below hb11 GC.out.lt)
      replace B := Lib.hid (bvia B.out hb11)
      clear hb11
      have lG0GD : w.heap.size < w11.heap.size := G0.out.lt
      have lG1GD : w.heap.size + 1 < w11.heap.size := G1.out.lt
      have lGAGD : KGA < w11.heap.size := GA.out.lt
      have lGBGD : KGB < w11.heap.size := GB.out.lt
      have lGCGD : KGC < w11.heap.size := GC.out.lt
      go_upto_region 13 with (fail)
      have D1 := Lib.hid ((Below.refl w11.heap.size w11).alloc (Nat.le_refl _) (.cells #[.int .i64 J1, .int .i64 J2, .int .i64 J3, .int .i64 J4, .int .i64 J5, .int .i64 J6] 58))
      have GD : Hid (Has (w11.alloc (.cells #[.int .i64 J1, .int .i64 J2, .int .i64 J3, .int .i64 J4, .int .i64 J5, .int .i64 J6] 58)) w11.heap.size 58 [.int .i64 J1, .int .i64 J2, .int .i64 J3, .int .i64 J4, .int .i64 J5, .int .i64 J6]) := Has.new rfl
      replace G0 := Lib.hid (G0.out.below D1.out G0.out.lt)
      replace G1 := Lib.hid (G1.out.below D1.out G1.out.lt)
      replace GA := Lib.hid (GA.out.below D1.out GA.out.lt)
      replace GB := Lib.hid (GB.out.below D1.out GB.out.lt)
      replace GC := Lib.hid (GC.out.below D1.out GC.out.lt)
      replace B := Lib.hid (bvia B.out D1.out)
      clear D1
      generalize w11.alloc (.cells #[.int .i64 J1, .int .i64 J2, .int .i64 J3, .int .i64 J4, .int .i64 J5, .int .i64 J6] 58) = V12 at *
      generalize w11.heap.size = KGD at *
      have hnCD : KGC ≠ KGD := by omega
      have cGC0 : V12.cell? ⟨KGC, 0, none⟩ = some (.int .i64 J1) := GC.out.cell 0
      have cGC1 : V12.cell? ⟨KGC, 1, none⟩ = some (.int .i64 J2) := GC.out.cell 1
      have cGC2 : V12.cell? ⟨KGC, 2, none⟩ = some (.int .i64 J3) := GC.out.cell 2
      have cGC3 : V12.cell? ⟨KGC, 3, none⟩ = some (.int .i64 J4) := GC.out.cell 3
      have cGC4 : V12.cell? ⟨KGC, 4, none⟩ = some (.int .i64 J5) := GC.out.cell 4
      have cGC5 : V12.cell? ⟨KGC, 5, none⟩ = some (.int .i64 J6) := GC.out.cell 5
      have cGD0 : V12.cell? ⟨KGD, 0, none⟩ = some (.int .i64 J1) := GD.out.cell 0
      have cGD1 : V12.cell? ⟨KGD, 1, none⟩ = some (.int .i64 J2) := GD.out.cell 1
      have cGD2 : V12.cell? ⟨KGD, 2, none⟩ = some (.int .i64 J3) := GD.out.cell 2
      have cGD3 : V12.cell? ⟨KGD, 3, none⟩ = some (.int .i64 J4) := GD.out.cell 3
      have cGD4 : V12.cell? ⟨KGD, 4, none⟩ = some (.int .i64 J5) := GD.out.cell 4
      have cGD5 : V12.cell? ⟨KGD, 5, none⟩ = some (.int .i64 J6) := GD.out.cell 5
      go_upto_region 13 with (fail)
      go_cut [11, 107] from 5 (fun vv zz wx => vv = .pointer (some ⟨KGA, 0, none⟩) ∧ zz = .bool false ∧ Hid (Has wx (w.heap.size) 70 [.int .i64 a, .int .i64 b, .int .i64 c, .int .i64 d, .int .i64 u, .int .i64 v, .int .i64 p, .int .i64 q, .int .i64 r, .int .i64 s, .int .i64 x, .int .i64 y, .int .i64 e, .int .i64 f, .int .i64 g, .int .i64 h, .int .i64 i, .int .i64 j]) ∧ Hid (Has wx (w.heap.size + 1) 25 [.int .i64 m, .int .i64 n]) ∧ Hid (Has wx (KGA) 58 [.int .i64 A1, .int .i64 A2, .int .i64 A3, .int .i64 A4, .int .i64 A5, .int .i64 A6]) ∧ Hid (Below w.heap.size w wx))
      case first =>
        by_cases hkd : KD = 0
        · subst hkd
          go_wp2
          go_meet
          case rel => exact ⟨rfl, rfl, G0, G1, GA, B⟩
        · have hkd2 : (KD == 0) = false := beq_eq_false_iff_ne.2 hkd
          clear hkd
          go_wp2
          go_meet
          case rel => exact ⟨rfl, rfl, G0, G1, GA, B⟩
      case rest =>
        clear cGC0 cGC1 cGC2 cGC3 cGC4 cGC5 cGD0 cGD1 cGD2 cGD3 cGD4 cGD5
        clear G0 G1 GA GB GC GD B
        obtain ⟨hv, hz, G0, G1, GA, B⟩ := hcut
        subst hv hz
        clear C6 C7 hq3
        have cG00 : wc.cell? ⟨w.heap.size, 0, none⟩ = some (.int .i64 a) := G0.out.cell 0
        have cG01 : wc.cell? ⟨w.heap.size, 1, none⟩ = some (.int .i64 b) := G0.out.cell 1
        have cG02 : wc.cell? ⟨w.heap.size, 2, none⟩ = some (.int .i64 c) := G0.out.cell 2
        have cG03 : wc.cell? ⟨w.heap.size, 3, none⟩ = some (.int .i64 d) := G0.out.cell 3
        have cG04 : wc.cell? ⟨w.heap.size, 4, none⟩ = some (.int .i64 u) := G0.out.cell 4
        have cG05 : wc.cell? ⟨w.heap.size, 5, none⟩ = some (.int .i64 v) := G0.out.cell 5
        have cG06 : wc.cell? ⟨w.heap.size, 6, none⟩ = some (.int .i64 p) := G0.out.cell 6
        have cG07 : wc.cell? ⟨w.heap.size, 7, none⟩ = some (.int .i64 q) := G0.out.cell 7
        have cG08 : wc.cell? ⟨w.heap.size, 8, none⟩ = some (.int .i64 r) := G0.out.cell 8
        have cG09 : wc.cell? ⟨w.heap.size, 9, none⟩ = some (.int .i64 s) := G0.out.cell 9
        have cG010 : wc.cell? ⟨w.heap.size, 10, none⟩ = some (.int .i64 x) := G0.out.cell 10
        have cG011 : wc.cell? ⟨w.heap.size, 11, none⟩ = some (.int .i64 y) := G0.out.cell 11
        have cG012 : wc.cell? ⟨w.heap.size, 12, none⟩ = some (.int .i64 e) := G0.out.cell 12
        have cG013 : wc.cell? ⟨w.heap.size, 13, none⟩ = some (.int .i64 f) := G0.out.cell 13
        have cG014 : wc.cell? ⟨w.heap.size, 14, none⟩ = some (.int .i64 g) := G0.out.cell 14
        have cG015 : wc.cell? ⟨w.heap.size, 15, none⟩ = some (.int .i64 h) := G0.out.cell 15
        have cG016 : wc.cell? ⟨w.heap.size, 16, none⟩ = some (.int .i64 i) := G0.out.cell 16
        have cG017 : wc.cell? ⟨w.heap.size, 17, none⟩ = some (.int .i64 j) := G0.out.cell 17
        have cG10 : wc.cell? ⟨w.heap.size + 1, 0, none⟩ = some (.int .i64 m) := G1.out.cell 0
        have cG11 : wc.cell? ⟨w.heap.size + 1, 1, none⟩ = some (.int .i64 n) := G1.out.cell 1
        go_upto_region 15 with (fail)
        go_wp2_with fail
        refine (C8.out _).mono ?_
        rintro e w13 ⟨rfl, hb13⟩
        clear cG00 cG01 cG02 cG03 cG04 cG05 cG06 cG07 cG08 cG09 cG010 cG011 cG012 cG013 cG014 cG015 cG016 cG017 cG10 cG11
        replace G0 := Lib.hid (G0.out.below hb13 G0.out.lt)
        replace G1 := Lib.hid (G1.out.below hb13 G1.out.lt)
        replace GA := Lib.hid (GA.out.below hb13 GA.out.lt)
        replace B := Lib.hid (bvia B.out hb13)
        clear hb13
        have lG0GS : w.heap.size < w13.heap.size := G0.out.lt
        have lG1GS : w.heap.size + 1 < w13.heap.size := G1.out.lt
        have lGAGS : KGA < w13.heap.size := GA.out.lt
        go_upto_region 16 with (fail)
        have D1 := Lib.hid ((Below.refl w13.heap.size w13).alloc (Nat.le_refl _) (.cells #[.int .i64 S1, .int .i64 S2] 25))
        have GS : Hid (Has (w13.alloc (.cells #[.int .i64 S1, .int .i64 S2] 25)) w13.heap.size 25 [.int .i64 S1, .int .i64 S2]) := Has.new rfl
        replace G0 := Lib.hid (G0.out.below D1.out G0.out.lt)
        replace G1 := Lib.hid (G1.out.below D1.out G1.out.lt)
        replace GA := Lib.hid (GA.out.below D1.out GA.out.lt)
        replace B := Lib.hid (bvia B.out D1.out)
        clear D1
        generalize w13.alloc (.cells #[.int .i64 S1, .int .i64 S2] 25) = V14 at *
        generalize w13.heap.size = KGS at *
        by_cases hs : KS = 0
        · subst hs
          replace C9 := Lib.hid (C9.out rfl)
          have cG00 : V14.cell? ⟨w.heap.size, 0, none⟩ = some (.int .i64 a) := G0.out.cell 0
          have cG01 : V14.cell? ⟨w.heap.size, 1, none⟩ = some (.int .i64 b) := G0.out.cell 1
          have cG02 : V14.cell? ⟨w.heap.size, 2, none⟩ = some (.int .i64 c) := G0.out.cell 2
          have cG03 : V14.cell? ⟨w.heap.size, 3, none⟩ = some (.int .i64 d) := G0.out.cell 3
          have cG04 : V14.cell? ⟨w.heap.size, 4, none⟩ = some (.int .i64 u) := G0.out.cell 4
          have cG05 : V14.cell? ⟨w.heap.size, 5, none⟩ = some (.int .i64 v) := G0.out.cell 5
          have cG06 : V14.cell? ⟨w.heap.size, 6, none⟩ = some (.int .i64 p) := G0.out.cell 6
          have cG07 : V14.cell? ⟨w.heap.size, 7, none⟩ = some (.int .i64 q) := G0.out.cell 7
          have cG08 : V14.cell? ⟨w.heap.size, 8, none⟩ = some (.int .i64 r) := G0.out.cell 8
          have cG09 : V14.cell? ⟨w.heap.size, 9, none⟩ = some (.int .i64 s) := G0.out.cell 9
          have cG010 : V14.cell? ⟨w.heap.size, 10, none⟩ = some (.int .i64 x) := G0.out.cell 10
          have cG011 : V14.cell? ⟨w.heap.size, 11, none⟩ = some (.int .i64 y) := G0.out.cell 11
          have cG012 : V14.cell? ⟨w.heap.size, 12, none⟩ = some (.int .i64 e) := G0.out.cell 12
          have cG013 : V14.cell? ⟨w.heap.size, 13, none⟩ = some (.int .i64 f) := G0.out.cell 13
          have cG014 : V14.cell? ⟨w.heap.size, 14, none⟩ = some (.int .i64 g) := G0.out.cell 14
          have cG015 : V14.cell? ⟨w.heap.size, 15, none⟩ = some (.int .i64 h) := G0.out.cell 15
          have cG016 : V14.cell? ⟨w.heap.size, 16, none⟩ = some (.int .i64 i) := G0.out.cell 16
          have cG017 : V14.cell? ⟨w.heap.size, 17, none⟩ = some (.int .i64 j) := G0.out.cell 17
          have cGS0 : V14.cell? ⟨KGS, 0, none⟩ = some (.int .i64 S1) := GS.out.cell 0
          have cGS1 : V14.cell? ⟨KGS, 1, none⟩ = some (.int .i64 S2) := GS.out.cell 1
          go_wp2_with fail
          refine (C9.out _).mono ?_
          rintro e w15 ⟨rfl, hb15⟩
          clear cG00 cG01 cG02 cG03 cG04 cG05 cG06 cG07 cG08 cG09 cG010 cG011 cG012 cG013 cG014 cG015 cG016 cG017 cGS0 cGS1
          replace G0 := Lib.hid (G0.out.below hb15 G0.out.lt)
          replace G1 := Lib.hid (G1.out.below hb15 G1.out.lt)
          replace GA := Lib.hid (GA.out.below hb15 GA.out.lt)
          replace GS := Lib.hid (GS.out.below hb15 GS.out.lt)
          replace B := Lib.hid (bvia B.out hb15)
          clear hb15
          have lG0GT : w.heap.size < w15.heap.size := G0.out.lt
          have lG1GT : w.heap.size + 1 < w15.heap.size := G1.out.lt
          have lGAGT : KGA < w15.heap.size := GA.out.lt
          have lGSGT : KGS < w15.heap.size := GS.out.lt
          go_upto_region 17 with (fail)
          have D1 := Lib.hid ((Below.refl w15.heap.size w15).alloc (Nat.le_refl _) (.cells #[.int .i64 T1, .int .i64 T2] 25))
          have GT : Hid (Has (w15.alloc (.cells #[.int .i64 T1, .int .i64 T2] 25)) w15.heap.size 25 [.int .i64 T1, .int .i64 T2]) := Has.new rfl
          replace G0 := Lib.hid (G0.out.below D1.out G0.out.lt)
          replace G1 := Lib.hid (G1.out.below D1.out G1.out.lt)
          replace GA := Lib.hid (GA.out.below D1.out GA.out.lt)
          replace GS := Lib.hid (GS.out.below D1.out GS.out.lt)
          replace B := Lib.hid (bvia B.out D1.out)
          clear D1
          generalize w15.alloc (.cells #[.int .i64 T1, .int .i64 T2] 25) = V16 at *
          generalize w15.heap.size = KGT at *
          have cGA0 : V16.cell? ⟨KGA, 0, none⟩ = some (.int .i64 A1) := GA.out.cell 0
          have cGA1 : V16.cell? ⟨KGA, 1, none⟩ = some (.int .i64 A2) := GA.out.cell 1
          have cGA2 : V16.cell? ⟨KGA, 2, none⟩ = some (.int .i64 A3) := GA.out.cell 2
          have cGA3 : V16.cell? ⟨KGA, 3, none⟩ = some (.int .i64 A4) := GA.out.cell 3
          have cGA4 : V16.cell? ⟨KGA, 4, none⟩ = some (.int .i64 A5) := GA.out.cell 4
          have cGA5 : V16.cell? ⟨KGA, 5, none⟩ = some (.int .i64 A6) := GA.out.cell 5
          have cG10 : V16.cell? ⟨w.heap.size + 1, 0, none⟩ = some (.int .i64 m) := G1.out.cell 0
          have cG11 : V16.cell? ⟨w.heap.size + 1, 1, none⟩ = some (.int .i64 n) := G1.out.cell 1
          go_wp2_with fail
          refine (C10.out _).mono ?_
          rintro e w17 ⟨rfl, hb17⟩
          clear cGA0 cGA1 cGA2 cGA3 cGA4 cGA5 cG10 cG11
          replace G0 := Lib.hid (G0.out.below hb17 G0.out.lt)
          replace G1 := Lib.hid (G1.out.below hb17 G1.out.lt)
          replace GA := Lib.hid (GA.out.below hb17 GA.out.lt)
          replace GS := Lib.hid (GS.out.below hb17 GS.out.lt)
          replace GT := Lib.hid (GT.out.below hb17 GT.out.lt)
          replace B := Lib.hid (bvia B.out hb17)
          clear hb17
          have lG0GU : w.heap.size < w17.heap.size := G0.out.lt
          have lG1GU : w.heap.size + 1 < w17.heap.size := G1.out.lt
          have lGAGU : KGA < w17.heap.size := GA.out.lt
          have lGSGU : KGS < w17.heap.size := GS.out.lt
          have lGTGU : KGT < w17.heap.size := GT.out.lt
          go_upto_region 18 with (fail)
          have D1 := Lib.hid ((Below.refl w17.heap.size w17).alloc (Nat.le_refl _) (.cells #[.int .i64 T1, .int .i64 T2] 25))
          have GU : Hid (Has (w17.alloc (.cells #[.int .i64 T1, .int .i64 T2] 25)) w17.heap.size 25 [.int .i64 T1, .int .i64 T2]) := Has.new rfl
          replace G0 := Lib.hid (G0.out.below D1.out G0.out.lt)
          replace G1 := Lib.hid (G1.out.below D1.out G1.out.lt)
          replace GA := Lib.hid (GA.out.below D1.out GA.out.lt)
          replace GS := Lib.hid (GS.out.below D1.out GS.out.lt)
          replace GT := Lib.hid (GT.out.below D1.out GT.out.lt)
          replace B := Lib.hid (bvia B.out D1.out)
          clear D1
          generalize w17.alloc (.cells #[.int .i64 T1, .int .i64 T2] 25) = V18 at *
          generalize w17.heap.size = KGU at *
          have cGT0 : V18.cell? ⟨KGT, 0, none⟩ = some (.int .i64 T1) := GT.out.cell 0
          have cGT1 : V18.cell? ⟨KGT, 1, none⟩ = some (.int .i64 T2) := GT.out.cell 1
          have cGU0 : V18.cell? ⟨KGU, 0, none⟩ = some (.int .i64 T1) := GU.out.cell 0
          have cGU1 : V18.cell? ⟨KGU, 1, none⟩ = some (.int .i64 T2) := GU.out.cell 1
          go_wp2_with fail
          go_wp2_with fail
          refine (awakeC _).mono ?_
          rintro e w19 ⟨rfl, hb19⟩
          clear cGT0 cGT1 cGU0 cGU1
          replace G0 := Lib.hid (G0.out.below hb19 G0.out.lt)
          replace G1 := Lib.hid (G1.out.below hb19 G1.out.lt)
          replace GA := Lib.hid (GA.out.below hb19 GA.out.lt)
          replace GS := Lib.hid (GS.out.below hb19 GS.out.lt)
          replace GT := Lib.hid (GT.out.below hb19 GT.out.lt)
          replace GU := Lib.hid (GU.out.below hb19 GU.out.lt)
          replace B := Lib.hid (bvia B.out hb19)
          clear hb19
          go_wp2
          go_ret
          exact ⟨rfl, B.out⟩
        · have hs1 : (KS == 0) = false := beq_eq_false_iff_ne.2 hs
          have hs2 : (KS != 0) = true := bne_iff_ne.2 hs
          clear hs
          have cG00 : V14.cell? ⟨w.heap.size, 0, none⟩ = some (.int .i64 a) := G0.out.cell 0
          have cG01 : V14.cell? ⟨w.heap.size, 1, none⟩ = some (.int .i64 b) := G0.out.cell 1
          have cG02 : V14.cell? ⟨w.heap.size, 2, none⟩ = some (.int .i64 c) := G0.out.cell 2
          have cG03 : V14.cell? ⟨w.heap.size, 3, none⟩ = some (.int .i64 d) := G0.out.cell 3
          have cG04 : V14.cell? ⟨w.heap.size, 4, none⟩ = some (.int .i64 u) := G0.out.cell 4
          have cG05 : V14.cell? ⟨w.heap.size, 5, none⟩ = some (.int .i64 v) := G0.out.cell 5
          have cG06 : V14.cell? ⟨w.heap.size, 6, none⟩ = some (.int .i64 p) := G0.out.cell 6
          have cG07 : V14.cell? ⟨w.heap.size, 7, none⟩ = some (.int .i64 q) := G0.out.cell 7
          have cG08 : V14.cell? ⟨w.heap.size, 8, none⟩ = some (.int .i64 r) := G0.out.cell 8
          have cG09 : V14.cell? ⟨w.heap.size, 9, none⟩ = some (.int .i64 s) := G0.out.cell 9
          have cG010 : V14.cell? ⟨w.heap.size, 10, none⟩ = some (.int .i64 x) := G0.out.cell 10
          have cG011 : V14.cell? ⟨w.heap.size, 11, none⟩ = some (.int .i64 y) := G0.out.cell 11
          have cG012 : V14.cell? ⟨w.heap.size, 12, none⟩ = some (.int .i64 e) := G0.out.cell 12
          have cG013 : V14.cell? ⟨w.heap.size, 13, none⟩ = some (.int .i64 f) := G0.out.cell 13
          have cG014 : V14.cell? ⟨w.heap.size, 14, none⟩ = some (.int .i64 g) := G0.out.cell 14
          have cG015 : V14.cell? ⟨w.heap.size, 15, none⟩ = some (.int .i64 h) := G0.out.cell 15
          have cG016 : V14.cell? ⟨w.heap.size, 16, none⟩ = some (.int .i64 i) := G0.out.cell 16
          have cG017 : V14.cell? ⟨w.heap.size, 17, none⟩ = some (.int .i64 j) := G0.out.cell 17
          have cGS0 : V14.cell? ⟨KGS, 0, none⟩ = some (.int .i64 S1) := GS.out.cell 0
          have cGS1 : V14.cell? ⟨KGS, 1, none⟩ = some (.int .i64 S2) := GS.out.cell 1
          go_wp2_with fail
          refine (C11.out _).mono ?_
          rintro e w15 ⟨rfl, hb15⟩
          clear cG00 cG01 cG02 cG03 cG04 cG05 cG06 cG07 cG08 cG09 cG010 cG011 cG012 cG013 cG014 cG015 cG016 cG017 cGS0 cGS1
          replace G0 := Lib.hid (G0.out.below hb15 G0.out.lt)
          replace G1 := Lib.hid (G1.out.below hb15 G1.out.lt)
          replace GA := Lib.hid (GA.out.below hb15 GA.out.lt)
          replace GS := Lib.hid (GS.out.below hb15 GS.out.lt)
          replace B := Lib.hid (bvia B.out hb15)
          clear hb15
          have lG0GT : w.heap.size < w15.heap.size := G0.out.lt
          have lG1GT : w.heap.size + 1 < w15.heap.size := G1.out.lt
          have lGAGT : KGA < w15.heap.size := GA.out.lt
          have lGSGT : KGS < w15.heap.size := GS.out.lt
          go_upto_region 17 with (fail)
          have D1 := Lib.hid ((Below.refl w15.heap.size w15).alloc (Nat.le_refl _) (.cells #[.int .i64 U1, .int .i64 U2] 25))
          have GT : Hid (Has (w15.alloc (.cells #[.int .i64 U1, .int .i64 U2] 25)) w15.heap.size 25 [.int .i64 U1, .int .i64 U2]) := Has.new rfl
          replace G0 := Lib.hid (G0.out.below D1.out G0.out.lt)
          replace G1 := Lib.hid (G1.out.below D1.out G1.out.lt)
          replace GA := Lib.hid (GA.out.below D1.out GA.out.lt)
          replace GS := Lib.hid (GS.out.below D1.out GS.out.lt)
          replace B := Lib.hid (bvia B.out D1.out)
          clear D1
          generalize w15.alloc (.cells #[.int .i64 U1, .int .i64 U2] 25) = V16 at *
          generalize w15.heap.size = KGT at *
          have cGA0 : V16.cell? ⟨KGA, 0, none⟩ = some (.int .i64 A1) := GA.out.cell 0
          have cGA1 : V16.cell? ⟨KGA, 1, none⟩ = some (.int .i64 A2) := GA.out.cell 1
          have cGA2 : V16.cell? ⟨KGA, 2, none⟩ = some (.int .i64 A3) := GA.out.cell 2
          have cGA3 : V16.cell? ⟨KGA, 3, none⟩ = some (.int .i64 A4) := GA.out.cell 3
          have cGA4 : V16.cell? ⟨KGA, 4, none⟩ = some (.int .i64 A5) := GA.out.cell 4
          have cGA5 : V16.cell? ⟨KGA, 5, none⟩ = some (.int .i64 A6) := GA.out.cell 5
          have cG10 : V16.cell? ⟨w.heap.size + 1, 0, none⟩ = some (.int .i64 m) := G1.out.cell 0
          have cG11 : V16.cell? ⟨w.heap.size + 1, 1, none⟩ = some (.int .i64 n) := G1.out.cell 1
          go_wp2_with fail
          refine (C10.out _).mono ?_
          rintro e w17 ⟨rfl, hb17⟩
          clear cGA0 cGA1 cGA2 cGA3 cGA4 cGA5 cG10 cG11
          replace G0 := Lib.hid (G0.out.below hb17 G0.out.lt)
          replace G1 := Lib.hid (G1.out.below hb17 G1.out.lt)
          replace GA := Lib.hid (GA.out.below hb17 GA.out.lt)
          replace GS := Lib.hid (GS.out.below hb17 GS.out.lt)
          replace GT := Lib.hid (GT.out.below hb17 GT.out.lt)
          replace B := Lib.hid (bvia B.out hb17)
          clear hb17
          have lG0GU : w.heap.size < w17.heap.size := G0.out.lt
          have lG1GU : w.heap.size + 1 < w17.heap.size := G1.out.lt
          have lGAGU : KGA < w17.heap.size := GA.out.lt
          have lGSGU : KGS < w17.heap.size := GS.out.lt
          have lGTGU : KGT < w17.heap.size := GT.out.lt
          go_upto_region 18 with (fail)
          have D1 := Lib.hid ((Below.refl w17.heap.size w17).alloc (Nat.le_refl _) (.cells #[.int .i64 T1, .int .i64 T2] 25))
          have GU : Hid (Has (w17.alloc (.cells #[.int .i64 T1, .int .i64 T2] 25)) w17.heap.size 25 [.int .i64 T1, .int .i64 T2]) := Has.new rfl
          replace G0 := Lib.hid (G0.out.below D1.out G0.out.lt)
          replace G1 := Lib.hid (G1.out.below D1.out G1.out.lt)
          replace GA := Lib.hid (GA.out.below D1.out GA.out.lt)
          replace GS := Lib.hid (GS.out.below D1.out GS.out.lt)
          replace GT := Lib.hid (GT.out.below D1.out GT.out.lt)
          replace B := Lib.hid (bvia B.out D1.out)
          clear D1
          generalize w17.alloc (.cells #[.int .i64 T1, .int .i64 T2] 25) = V18 at *
          generalize w17.heap.size = KGU at *
          have cGT0 : V18.cell? ⟨KGT, 0, none⟩ = some (.int .i64 U1) := GT.out.cell 0
          have cGT1 : V18.cell? ⟨KGT, 1, none⟩ = some (.int .i64 U2) := GT.out.cell 1
          have cGU0 : V18.cell? ⟨KGU, 0, none⟩ = some (.int .i64 T1) := GU.out.cell 0
          have cGU1 : V18.cell? ⟨KGU, 1, none⟩ = some (.int .i64 T2) := GU.out.cell 1
          go_wp2_with fail
          go_wp2_with fail
          refine (awakeC _).mono ?_
          rintro e w19 ⟨rfl, hb19⟩
          clear cGT0 cGT1 cGU0 cGU1
          replace G0 := Lib.hid (G0.out.below hb19 G0.out.lt)
          replace G1 := Lib.hid (G1.out.below hb19 G1.out.lt)
          replace GA := Lib.hid (GA.out.below hb19 GA.out.lt)
          replace GS := Lib.hid (GS.out.below hb19 GS.out.lt)
          replace GT := Lib.hid (GT.out.below hb19 GT.out.lt)
          replace GU := Lib.hid (GU.out.below hb19 GU.out.lt)
          replace B := Lib.hid (bvia B.out hb19)
          clear hb19
          go_wp2
          go_ret
          exact ⟨rfl, B.out⟩
end Go.Proofs.Ytmghpaibdgkbfaa
