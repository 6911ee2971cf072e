/-
  The law GridsMoves.
-/
import Derived.Test.YtmghpaibdgkbfaaVA9
import Derived.Test.YtmghpaibdgkbfaaVA10
import Derived.Test.YtmghpaibdgkbfaaVA13
import Derived.Test.YtmghpaibdgkbfaaVA15
import Derived.Test.YtmghpaibdgkbfaaVA16
import Derived.Deep.CutRange
namespace Go.Proofs.Ytmghpaibdgkbfaa
open Go.RowKit
theorem eqMove (a b c d u v : Int) (w : World) : (Op.equalIn 10000 58 (vV a b c d u v) (vV a b c d u v)).run Try.prog w = .ok true w := by
  have u3 := Try.underlying2
  have a3 := Try.isAgg2
  have z3 := Try.sizeOf2
  have um := Try.underlying40
  have am := Try.isAgg40
  have zm := Try.sizeOf40
  have up := Try.underlying25
  have ap := Try.isAgg25
  have zp := Try.sizeOf25
  have hS : Try.prog.underlying 58 = some (.struct (Try.prog.fieldsOf 58)) := by kernel_rfl
  have hp : Try.prog.stoodInHeld 58 = false := by kernel_rfl
  have hSm : Try.prog.underlying 40 = some (.struct (Try.prog.fieldsOf 40)) := by kernel_rfl
  have hpm : Try.prog.stoodInHeld 40 = false := by kernel_rfl
  have hSp : Try.prog.underlying 25 = some (.struct (Try.prog.fieldsOf 25)) := by kernel_rfl
  have hpp : Try.prog.stoodInHeld 25 = false := by kernel_rfl
  have hm : ∀ W, (Op.equalIn 9999 40 (vM a b c d) (vM a b c d)).run Try.prog W = .ok true W := fun W => by
    rw [show (9999 : Nat) = 9998 + 1 from rfl, run_equalIn_agg W 9998 40 _ _ hSm hpm]
    simp only [Program.fieldsOf, Try.underlying40]
    go_simp
  have hq : ∀ W, (Op.equalIn 9999 25 (vP u v) (vP u v)).run Try.prog W = .ok true W := fun W => by
    rw [show (9999 : Nat) = 9998 + 1 from rfl, run_equalIn_agg W 9998 25 _ _ hSp hpp]
    simp only [Program.fieldsOf, Try.underlying25]
    go_simp
  rw [show (10000 : Nat) = 9999 + 1 from rfl, run_equalIn_agg w 9999 58 _ _ hS hp]
  simp only [Program.fieldsOf, Try.underlying58]
  go_simp
theorem compR_form (a b c d u v p q r s x y : Int) : ∃ (A B C D E F K : Int), compR a b c d u v p q r s x y = (vV A B C D E F, K) := by
  unfold compR
  split
  · split
    · exact ⟨_, _, _, _, _, _, _, rfl⟩
    · exact ⟨_, _, _, _, _, _, _, rfl⟩
  · exact ⟨_, _, _, _, _, _, _, rfl⟩
theorem invR_form (a b c d u v : Int) : ∃ (A B C D E F K : Int), invR a b c d u v = (vV A B C D E F, K) := by
  unfold invR vV6
  split
  · split
    · split
      · exact ⟨_, _, _, _, _, _, _, rfl⟩
      · exact ⟨_, _, _, _, _, _, _, rfl⟩
    · exact ⟨_, _, _, _, _, _, _, rfl⟩
  · exact ⟨_, _, _, _, _, _, _, rfl⟩
set_option maxRecDepth 100000 in
set_option maxHeartbeats 8000000 in
theorem movesP (a b c d u v p q r s x y m n : Int) (w : World) : Calls Try.prog 10 #[vV a b c d u v, vV p q r s x y, vP m n] w fun e w' => e = .returned (.bool true) ∧ Below w.heap.size w w' := by
  have C1 := Lib.hid (fun W => applyC a b c d u v m n W)
  have C2 := Lib.hid (fun W => rApplyC a b c d u v m n W)
  have C3 := Lib.hid (fun W => composeC a b c d u v p q r s x y W)
  have C4 := Lib.hid (fun W => rcomposeC a b c d u v p q r s x y W)
  have C5 := Lib.hid (fun W => invertC a b c d u v W)
  have C6 := Lib.hid (fun W => rinvertC a b c d u v W)
  have C7 := Lib.hid (fun W => orderC a b c d W)
  have C8 := Lib.hid (fun W => rorderC a b c d W)
  rw [← ordR_eq] at C8
  obtain ⟨A1, A2, A3, A4, A5, A6, AK, hA⟩ := compR_form a b c d u v p q r s x y
  obtain ⟨B1, B2, B3, B4, B5, B6, BK, hB⟩ := invR_form a b c d u v
  rw [hA] at C3 C4
  rw [hB] at C5 C6
  clear hA hB
  generalize ordR a b c d = O at *
  generalize (apR a b c d u v m n).1 = X at *
  generalize (apR a b c d u v m n).2.1 = Y at *
  generalize (apR a b c d u v m n).2.2 = Z at *
  simp only at C3 C4 C5 C6
  have G0 : Hid (Has (boxW w [([.int .i64 a, .int .i64 b, .int .i64 c, .int .i64 d, .int .i64 u, .int .i64 v], 58), ([.int .i64 p, .int .i64 q, .int .i64 r, .int .i64 s, .int .i64 x, .int .i64 y], 58), ([.int .i64 m, .int .i64 n], 25)]) (w.heap.size) 58 [.int .i64 a, .int .i64 b, .int .i64 c, .int .i64 d, .int .i64 u, .int .i64 v]) := box_has [([.int .i64 a, .int .i64 b, .int .i64 c, .int .i64 d, .int .i64 u, .int .i64 v], 58), ([.int .i64 p, .int .i64 q, .int .i64 r, .int .i64 s, .int .i64 x, .int .i64 y], 58), ([.int .i64 m, .int .i64 n], 25)] (w := w) (Below.refl _ _) (i := 0) rfl
  have G1 : Hid (Has (boxW w [([.int .i64 a, .int .i64 b, .int .i64 c, .int .i64 d, .int .i64 u, .int .i64 v], 58), ([.int .i64 p, .int .i64 q, .int .i64 r, .int .i64 s, .int .i64 x, .int .i64 y], 58), ([.int .i64 m, .int .i64 n], 25)]) (w.heap.size + 1) 58 [.int .i64 p, .int .i64 q, .int .i64 r, .int .i64 s, .int .i64 x, .int .i64 y]) := box_has [([.int .i64 a, .int .i64 b, .int .i64 c, .int .i64 d, .int .i64 u, .int .i64 v], 58), ([.int .i64 p, .int .i64 q, .int .i64 r, .int .i64 s, .int .i64 x, .int .i64 y], 58), ([.int .i64 m, .int .i64 n], 25)] (w := w) (Below.refl _ _) (i := 1) rfl
  have G2 : Hid (Has (boxW w [([.int .i64 a, .int .i64 b, .int .i64 c, .int .i64 d, .int .i64 u, .int .i64 v], 58), ([.int .i64 p, .int .i64 q, .int .i64 r, .int .i64 s, .int .i64 x, .int .i64 y], 58), ([.int .i64 m, .int .i64 n], 25)]) (w.heap.size + 1 + 1) 25 [.int .i64 m, .int .i64 n]) := box_has [([.int .i64 a, .int .i64 b, .int .i64 c, .int .i64 d, .int .i64 u, .int .i64 v], 58), ([.int .i64 p, .int .i64 q, .int .i64 r, .int .i64 s, .int .i64 x, .int .i64 y], 58), ([.int .i64 m, .int .i64 n], 25)] (w := w) (Below.refl _ _) (i := 2) rfl
  have B := Lib.hid (boxW_below [([.int .i64 a, .int .i64 b, .int .i64 c, .int .i64 d, .int .i64 u, .int .i64 v], 58), ([.int .i64 p, .int .i64 q, .int .i64 r, .int .i64 s, .int .i64 x, .int .i64 y], 58), ([.int .i64 m, .int .i64 n], 25)] w)
  obtain ⟨W1, hW1⟩ : ∃ W1, W1 = boxW w [([.int .i64 a, .int .i64 b, .int .i64 c, .int .i64 d, .int .i64 u, .int .i64 v], 58), ([.int .i64 p, .int .i64 q, .int .i64 r, .int .i64 s, .int .i64 x, .int .i64 y], 58), ([.int .i64 m, .int .i64 n], 25)] := ⟨_, rfl⟩
  rw [← hW1] at G0 G1 G2 B
  go_enter Try.func10, Try.ntmps10
  go_upto_region 1 with (fail)
  rw [show ((w.alloc (.cells #[.int .i64 a, .int .i64 b, .int .i64 c, .int .i64 d, .int .i64 u, .int .i64 v] 58)).alloc (.cells #[.int .i64 p, .int .i64 q, .int .i64 r, .int .i64 s, .int .i64 x, .int .i64 y] 58)).alloc (.cells #[.int .i64 m, .int .i64 n] 25) = W1 from hW1.symm]
  clear hW1
  have cG00 : W1.cell? ⟨w.heap.size, 0, none⟩ = some (.int .i64 a) := G0.out.cell 0
  have cG01 : W1.cell? ⟨w.heap.size, 1, none⟩ = some (.int .i64 b) := G0.out.cell 1
  have cG02 : W1.cell? ⟨w.heap.size, 2, none⟩ = some (.int .i64 c) := G0.out.cell 2
  have cG03 : W1.cell? ⟨w.heap.size, 3, none⟩ = some (.int .i64 d) := G0.out.cell 3
  have cG04 : W1.cell? ⟨w.heap.size, 4, none⟩ = some (.int .i64 u) := G0.out.cell 4
  have cG05 : W1.cell? ⟨w.heap.size, 5, none⟩ = some (.int .i64 v) := G0.out.cell 5
  have cG10 : W1.cell? ⟨w.heap.size + 1, 0, none⟩ = some (.int .i64 p) := G1.out.cell 0
  have cG11 : W1.cell? ⟨w.heap.size + 1, 1, none⟩ = some (.int .i64 q) := G1.out.cell 1
  have cG12 : W1.cell? ⟨w.heap.size + 1, 2, none⟩ = some (.int .i64 r) := G1.out.cell 2
  have cG13 : W1.cell? ⟨w.heap.size + 1, 3, none⟩ = some (.int .i64 s) := G1.out.cell 3
  have cG14 : W1.cell? ⟨w.heap.size + 1, 4, none⟩ = some (.int .i64 x) := G1.out.cell 4
  have cG15 : W1.cell? ⟨w.heap.size + 1, 5, none⟩ = some (.int .i64 y) := G1.out.cell 5
  have cG20 : W1.cell? ⟨w.heap.size + 1 + 1, 0, none⟩ = some (.int .i64 m) := G2.out.cell 0
  have cG21 : W1.cell? ⟨w.heap.size + 1 + 1, 1, none⟩ = some (.int .i64 n) := G2.out.cell 1
  go_wp2_with fail
  refine (C1.out _).mono ?_
  rintro e w1 ⟨rfl, hb1⟩
  clear cG00 cG01 cG02 cG03 cG04 cG05 cG10 cG11 cG12 cG13 cG14 cG15 cG20 cG21
  replace G0 := Lib.hid (G0.out.below hb1 G0.out.lt)
  replace G1 := Lib.hid (G1.out.below hb1 G1.out.lt)
  replace G2 := Lib.hid (G2.out.below hb1 G2.out.lt)
  replace B := Lib.hid (bvia B.out hb1)
  clear hb1
  have lG0GA : w.heap.size < w1.heap.size := G0.out.lt
  have lG1GA : w.heap.size + 1 < w1.heap.size := G1.out.lt
  have lG2GA : w.heap.size + 1 + 1 < w1.heap.size := G2.out.lt
  go_upto_region 2 with (fail)
  have D1 := Lib.hid ((Below.refl w1.heap.size w1).alloc (Nat.le_refl _) (.cells #[.int .i64 X, .int .i64 Y] 25))
  have GA : Hid (Has (w1.alloc (.cells #[.int .i64 X, .int .i64 Y] 25)) w1.heap.size 25 [.int .i64 X, .int .i64 Y]) := Has.new rfl
  replace G0 := Lib.hid (G0.out.below D1.out G0.out.lt)
  replace G1 := Lib.hid (G1.out.below D1.out G1.out.lt)
  replace G2 := Lib.hid (G2.out.below D1.out G2.out.lt)
  replace B := Lib.hid (bvia B.out D1.out)
  clear D1
  generalize w1.alloc (.cells #[.int .i64 X, .int .i64 Y] 25) = V2 at *
  generalize w1.heap.size = KGA at *
  have cG00 : V2.cell? ⟨w.heap.size, 0, none⟩ = some (.int .i64 a) := G0.out.cell 0
  have cG01 : V2.cell? ⟨w.heap.size, 1, none⟩ = some (.int .i64 b) := G0.out.cell 1
  have cG02 : V2.cell? ⟨w.heap.size, 2, none⟩ = some (.int .i64 c) := G0.out.cell 2
  have cG03 : V2.cell? ⟨w.heap.size, 3, none⟩ = some (.int .i64 d) := G0.out.cell 3
  have cG04 : V2.cell? ⟨w.heap.size, 4, none⟩ = some (.int .i64 u) := G0.out.cell 4
  have cG05 : V2.cell? ⟨w.heap.size, 5, none⟩ = some (.int .i64 v) := G0.out.cell 5
  have cG10 : V2.cell? ⟨w.heap.size + 1, 0, none⟩ = some (.int .i64 p) := G1.out.cell 0
  have cG11 : V2.cell? ⟨w.heap.size + 1, 1, none⟩ = some (.int .i64 q) := G1.out.cell 1
  have cG12 : V2.cell? ⟨w.heap.size + 1, 2, none⟩ = some (.int .i64 r) := G1.out.cell 2
  have cG13 : V2.cell? ⟨w.heap.size + 1, 3, none⟩ = some (.int .i64 s) := G1.out.cell 3
  have cG14 : V2.cell? ⟨w.heap.size + 1, 4, none⟩ = some (.int .i64 x) := G1.out.cell 4
  have cG15 : V2.cell? ⟨w.heap.size + 1, 5, none⟩ = some (.int .i64 y) := G1.out.cell 5
  have cG20 : V2.cell? ⟨w.heap.size + 1 + 1, 0, none⟩ = some (.int .i64 m) := G2.out.cell 0
  have cG21 : V2.cell? ⟨w.heap.size + 1 + 1, 1, none⟩ = some (.int .i64 n) := G2.out.cell 1
  have cGA0 : V2.cell? ⟨KGA, 0, none⟩ = some (.int .i64 X) := GA.out.cell 0
  have cGA1 : V2.cell? ⟨KGA, 1, none⟩ = some (.int .i64 Y) := GA.out.cell 1
  go_wp2_with fail
  refine (C2.out _).mono ?_
  rintro e w3 ⟨rfl, hb3⟩
  clear cG00 cG01 cG02 cG03 cG04 cG05 cG10 cG11 cG12 cG13 cG14 cG15 cG20 cG21 cGA0 cGA1
  replace G0 := Lib.hid (G0.out.below hb3 G0.out.lt)
  replace G1 := Lib.hid (G1.out.below hb3 G1.out.lt)
  replace G2 := Lib.hid (G2.out.below hb3 G2.out.lt)
  replace GA := Lib.hid (GA.out.below hb3 GA.out.lt)
  replace B := Lib.hid (bvia B.out hb3)
  clear hb3
  have lG0GB : w.heap.size < w3.heap.size := G0.out.lt
  have lG1GB : w.heap.size + 1 < w3.heap.size := G1.out.lt
  have lG2GB : w.heap.size + 1 + 1 < w3.heap.size := G2.out.lt
  have lGAGB : KGA < w3.heap.size := GA.out.lt
  go_upto_region 3 with (fail)
  have D1 := Lib.hid ((Below.refl w3.heap.size w3).alloc (Nat.le_refl _) (.cells #[.int .i64 X, .int .i64 Y] 25))
  have GB : Hid (Has (w3.alloc (.cells #[.int .i64 X, .int .i64 Y] 25)) w3.heap.size 25 [.int .i64 X, .int .i64 Y]) := Has.new rfl
  replace G0 := Lib.hid (G0.out.below D1.out G0.out.lt)
  replace G1 := Lib.hid (G1.out.below D1.out G1.out.lt)
  replace G2 := Lib.hid (G2.out.below D1.out G2.out.lt)
  replace GA := Lib.hid (GA.out.below D1.out GA.out.lt)
  replace B := Lib.hid (bvia B.out D1.out)
  clear D1
  generalize w3.alloc (.cells #[.int .i64 X, .int .i64 Y] 25) = V4 at *
  generalize w3.heap.size = KGB at *
  have cG00 : V4.cell? ⟨w.heap.size, 0, none⟩ = some (.int .i64 a) := G0.out.cell 0
  have cG01 : V4.cell? ⟨w.heap.size, 1, none⟩ = some (.int .i64 b) := G0.out.cell 1
  have cG02 : V4.cell? ⟨w.heap.size, 2, none⟩ = some (.int .i64 c) := G0.out.cell 2
  have cG03 : V4.cell? ⟨w.heap.size, 3, none⟩ = some (.int .i64 d) := G0.out.cell 3
  have cG04 : V4.cell? ⟨w.heap.size, 4, none⟩ = some (.int .i64 u) := G0.out.cell 4
  have cG05 : V4.cell? ⟨w.heap.size, 5, none⟩ = some (.int .i64 v) := G0.out.cell 5
  have cG10 : V4.cell? ⟨w.heap.size + 1, 0, none⟩ = some (.int .i64 p) := G1.out.cell 0
  have cG11 : V4.cell? ⟨w.heap.size + 1, 1, none⟩ = some (.int .i64 q) := G1.out.cell 1
  have cG12 : V4.cell? ⟨w.heap.size + 1, 2, none⟩ = some (.int .i64 r) := G1.out.cell 2
  have cG13 : V4.cell? ⟨w.heap.size + 1, 3, none⟩ = some (.int .i64 s) := G1.out.cell 3
  have cG14 : V4.cell? ⟨w.heap.size + 1, 4, none⟩ = some (.int .i64 x) := G1.out.cell 4
  have cG15 : V4.cell? ⟨w.heap.size + 1, 5, none⟩ = some (.int .i64 y) := G1.out.cell 5
  have cG20 : V4.cell? ⟨w.heap.size + 1 + 1, 0, none⟩ = some (.int .i64 m) := G2.out.cell 0
  have cG21 : V4.cell? ⟨w.heap.size + 1 + 1, 1, none⟩ = some (.int .i64 n) := G2.out.cell 1
  have cGA0 : V4.cell? ⟨KGA, 0, none⟩ = some (.int .i64 X) := GA.out.cell 0
  have cGA1 : V4.cell? ⟨KGA, 1, none⟩ = some (.int .i64 Y) := GA.out.cell 1
  have cGB0 : V4.cell? ⟨KGB, 0, none⟩ = some (.int .i64 X) := GB.out.cell 0
  have cGB1 : V4.cell? ⟨KGB, 1, none⟩ = some (.int .i64 Y) := GB.out.cell 1
  go_wp2_with fail
  refine (C3.out _).mono ?_
  rintro e w5 ⟨rfl, hb5⟩
  clear cG00 cG01 cG02 cG03 cG04 cG05 cG10 cG11 cG12 cG13 cG14 cG15 cG20 cG21 cGA0 cGA1 cGB0 cGB1
  replace G0 := Lib.hid (G0.out.below hb5 G0.out.lt)
  replace G1 := Lib.hid (G1.out.below hb5 G1.out.lt)
  replace G2 := Lib.hid (G2.out.below hb5 G2.out.lt)
  replace GA := Lib.hid (GA.out.below hb5 GA.out.lt)
  replace GB := Lib.hid (GB.out.below hb5 GB.out.lt)
  replace B := Lib.hid (bvia B.out hb5)
  clear hb5
  have lG0GC : w.heap.size < w5.heap.size := G0.out.lt
  have lG1GC : w.heap.size + 1 < w5.heap.size := G1.out.lt
  have lG2GC : w.heap.size + 1 + 1 < w5.heap.size := G2.out.lt
  have lGAGC : KGA < w5.heap.size := GA.out.lt
  have lGBGC : KGB < w5.heap.size := GB.out.lt
  go_upto_region 4 with (fail)
  have D1 := Lib.hid ((Below.refl w5.heap.size w5).alloc (Nat.le_refl _) (.cells #[.int .i64 A1, .int .i64 A2, .int .i64 A3, .int .i64 A4, .int .i64 A5, .int .i64 A6] 58))
  have GC : Hid (Has (w5.alloc (.cells #[.int .i64 A1, .int .i64 A2, .int .i64 A3, .int .i64 A4, .int .i64 A5, .int .i64 A6] 58)) w5.heap.size 58 [.int .i64 A1, .int .i64 A2, .int .i64 A3, .int .i64 A4, .int .i64 A5, .int .i64 A6]) := Has.new rfl
  replace G0 := Lib.hid (G0.out.below D1.out G0.out.lt)
  replace G1 := Lib.hid (G1.out.below D1.out G1.out.lt)
  replace G2 := Lib.hid (G2.out.below D1.out G2.out.lt)
  replace GA := Lib.hid (GA.out.below D1.out GA.out.lt)
  replace GB := Lib.hid (GB.out.below D1.out GB.out.lt)
  replace B := Lib.hid (bvia B.out D1.out)
  clear D1
  generalize w5.alloc (.cells #[.int .i64 A1, .int .i64 A2, .int .i64 A3, .int .i64 A4, .int .i64 A5, .int .i64 A6] 58) = V6 at *
  generalize w5.heap.size = KGC at *
  have cG00 : V6.cell? ⟨w.heap.size, 0, none⟩ = some (.int .i64 a) := G0.out.cell 0
  have cG01 : V6.cell? ⟨w.heap.size, 1, none⟩ = some (.int .i64 b) := G0.out.cell 1
  have cG02 : V6.cell? ⟨w.heap.size, 2, none⟩ = some (.int .i64 c) := G0.out.cell 2
  have cG03 : V6.cell? ⟨w.heap.size, 3, none⟩ = some (.int .i64 d) := G0.out.cell 3
  have cG04 : V6.cell? ⟨w.heap.size, 4, none⟩ = some (.int .i64 u) := G0.out.cell 4
  have cG05 : V6.cell? ⟨w.heap.size, 5, none⟩ = some (.int .i64 v) := G0.out.cell 5
  have cG10 : V6.cell? ⟨w.heap.size + 1, 0, none⟩ = some (.int .i64 p) := G1.out.cell 0
  have cG11 : V6.cell? ⟨w.heap.size + 1, 1, none⟩ = some (.int .i64 q) := G1.out.cell 1
  have cG12 : V6.cell? ⟨w.heap.size + 1, 2, none⟩ = some (.int .i64 r) := G1.out.cell 2
  have cG13 : V6.cell? ⟨w.heap.size + 1, 3, none⟩ = some (.int .i64 s) := G1.out.cell 3
  have cG14 : V6.cell? ⟨w.heap.size + 1, 4, none⟩ = some (.int .i64 x) := G1.out.cell 4
  have cG15 : V6.cell? ⟨w.heap.size + 1, 5, none⟩ = some (.int .i64 y) := G1.out.cell 5
  have cG20 : V6.cell? ⟨w.heap.size + 1 + 1, 0, none⟩ = some (.int .i64 m) := G2.out.cell 0
  have cG21 : V6.cell? ⟨w.heap.size + 1 + 1, 1, none⟩ = some (.int .i64 n) := G2.out.cell 1
  have cGA0 : V6.cell? ⟨KGA, 0, none⟩ = some (.int .i64 X) := GA.out.cell 0
  have cGA1 : V6.cell? ⟨KGA, 1, none⟩ = some (.int .i64 Y) := GA.out.cell 1
  have cGB0 : V6.cell? ⟨KGB, 0, none⟩ = some (.int .i64 X) := GB.out.cell 0
  have cGB1 : V6.cell? ⟨KGB, 1, none⟩ = some (.int .i64 Y) := GB.out.cell 1
  have cGC0 : V6.cell? ⟨KGC, 0, none⟩ = some (.int .i64 A1) := GC.out.cell 0
  have cGC1 : V6.cell? ⟨KGC, 1, none⟩ = some (.int .i64 A2) := GC.out.cell 1
  have cGC2 : V6.cell? ⟨KGC, 2, none⟩ = some (.int .i64 A3) := GC.out.cell 2
  have cGC3 : V6.cell? ⟨KGC, 3, none⟩ = some (.int .i64 A4) := GC.out.cell 3
  have cGC4 : V6.cell? ⟨KGC, 4, none⟩ = some (.int .i64 A5) := GC.out.cell 4
  have cGC5 : V6.cell? ⟨KGC, 5, none⟩ = some (.int .i64 A6) := GC.out.cell 5
  go_wp2_with fail
  refine (C4.out _).mono ?_
  rintro e w7 ⟨rfl, hb7⟩
  clear cG00 cG01 cG02 cG03 cG04 cG05 cG10 cG11 cG12 cG13 cG14 cG15 cG20 cG21 cGA0 cGA1 cGB0 cGB1 cGC0 cGC1 cGC2 cGC3 cGC4 cGC5
  replace G0 := Lib.hid (G0.out.below hb7 G0.out.lt)
  replace G1 := Lib.hid (G1.out.below hb7 G1.out.lt)
  replace G2 := Lib.hid (G2.out.below hb7 G2.out.lt)
  replace GA := Lib.hid (GA.out.below hb7 GA.out.lt)
  replace GB := Lib.hid (GB.out.below hb7 GB.out.lt)
  replace GC := Lib.hid (GC.out.below hb7 GC.out.lt)
  replace B := Lib.hid (bvia B.out hb7)
  clear hb7
  have lG0GD : w.heap.size < w7.heap.size := G0.out.lt
  have lG1GD : w.heap.size + 1 < w7.heap.size := G1.out.lt
  have lG2GD : w.heap.size + 1 + 1 < w7.heap.size := G2.out.lt
  have lGAGD : KGA < w7.heap.size := GA.out.lt
  have lGBGD : KGB < w7.heap.size := GB.out.lt
  have lGCGD : KGC < w7.heap.size := GC.out.lt
  go_upto_region 5 with (fail)
  have D1 := Lib.hid ((Below.refl w7.heap.size w7).alloc (Nat.le_refl _) (.cells #[.int .i64 A1, .int .i64 A2, .int .i64 A3, .int .i64 A4, .int .i64 A5, .int .i64 A6] 58))
  have GD : Hid (Has (w7.alloc (.cells #[.int .i64 A1, .int .i64 A2, .int .i64 A3, .int .i64 A4, .int .i64 A5, .int .i64 A6] 58)) w7.heap.size 58 [.int .i64 A1, .int .i64 A2, .int .i64 A3, .int .i64 A4, .int .i64 A5, .int .i64 A6]) := Has.new rfl
  replace G0 := Lib.hid (G0.out.below D1.out G0.out.lt)
  replace G1 := Lib.hid (G1.out.below D1.out G1.out.lt)
  replace G2 := Lib.hid (G2.out.below D1.out G2.out.lt)
  replace GA := Lib.hid (GA.out.below D1.out GA.out.lt)
  replace GB := Lib.hid (GB.out.below D1.out GB.out.lt)
  replace GC := Lib.hid (GC.out.below D1.out GC.out.lt)
  replace B := Lib.hid (bvia B.out D1.out)
  clear D1
  generalize w7.alloc (.cells #[.int .i64 A1, .int .i64 A2, .int .i64 A3, .int .i64 A4, .int .i64 A5, .int .i64 A6] 58) = V8 at *
  generalize w7.heap.size = KGD at *
  have hq1 := fun W => eqPt X Y X Y W
  have hs1 : sameP X Y X Y = true := by unfold sameP; simp
  have hq2 := fun W => eqMove A1 A2 A3 A4 A5 A6 W
  have hq3 := fun W => eqMove B1 B2 B3 B4 B5 B6 W
  rw [hs1] at hq1
  have hnCD : KGC ≠ KGD := by omega
  clear hs1
  have cG00 : V8.cell? ⟨w.heap.size, 0, none⟩ = some (.int .i64 a) := G0.out.cell 0
  have cG01 : V8.cell? ⟨w.heap.size, 1, none⟩ = some (.int .i64 b) := G0.out.cell 1
  have cG02 : V8.cell? ⟨w.heap.size, 2, none⟩ = some (.int .i64 c) := G0.out.cell 2
  have cG03 : V8.cell? ⟨w.heap.size, 3, none⟩ = some (.int .i64 d) := G0.out.cell 3
  have cG04 : V8.cell? ⟨w.heap.size, 4, none⟩ = some (.int .i64 u) := G0.out.cell 4
  have cG05 : V8.cell? ⟨w.heap.size, 5, none⟩ = some (.int .i64 v) := G0.out.cell 5
  have cG10 : V8.cell? ⟨w.heap.size + 1, 0, none⟩ = some (.int .i64 p) := G1.out.cell 0
  have cG11 : V8.cell? ⟨w.heap.size + 1, 1, none⟩ = some (.int .i64 q) := G1.out.cell 1
  have cG12 : V8.cell? ⟨w.heap.size + 1, 2, none⟩ = some (.int .i64 r) := G1.out.cell 2
  have cG13 : V8.cell? ⟨w.heap.size + 1, 3, none⟩ = some (.int .i64 s) := G1.out.cell 3
  have cG14 : V8.cell? ⟨w.heap.size + 1, 4, none⟩ = some (.int .i64 x) := G1.out.cell 4
  have cG15 : V8.cell? ⟨w.heap.size + 1, 5, none⟩ = some (.int .i64 y) := G1.out.cell 5
  have cG20 : V8.cell? ⟨w.heap.size + 1 + 1, 0, none⟩ = some (.int .i64 m) := G2.out.cell 0
  have cG21 : V8.cell? ⟨w.heap.size + 1 + 1, 1, none⟩ = some (.int .i64 n) := G2.out.cell 1
  have cGA0 : V8.cell? ⟨KGA, 0, none⟩ = some (.int .i64 X) := GA.out.cell 0
  have cGA1 : V8.cell? ⟨KGA, 1, none⟩ = some (.int .i64 Y) := GA.out.cell 1
  have cGB0 : V8.cell? ⟨KGB, 0, none⟩ = some (.int .i64 X) := GB.out.cell 0
  have cGB1 : V8.cell? ⟨KGB, 1, none⟩ = some (.int .i64 Y) := GB.out.cell 1
  have cGC0 : V8.cell? ⟨KGC, 0, none⟩ = some (.int .i64 A1) := GC.out.cell 0
  have cGC1 : V8.cell? ⟨KGC, 1, none⟩ = some (.int .i64 A2) := GC.out.cell 1
  have cGC2 : V8.cell? ⟨KGC, 2, none⟩ = some (.int .i64 A3) := GC.out.cell 2
  have cGC3 : V8.cell? ⟨KGC, 3, none⟩ = some (.int .i64 A4) := GC.out.cell 3
  have cGC4 : V8.cell? ⟨KGC, 4, none⟩ = some (.int .i64 A5) := GC.out.cell 4
  have cGC5 : V8.cell? ⟨KGC, 5, none⟩ = some (.int .i64 A6) := GC.out.cell 5
  have cGD0 : V8.cell? ⟨KGD, 0, none⟩ = some (.int .i64 A1) := GD.out.cell 0
  have cGD1 : V8.cell? ⟨KGD, 1, none⟩ = some (.int .i64 A2) := GD.out.cell 1
  have cGD2 : V8.cell? ⟨KGD, 2, none⟩ = some (.int .i64 A3) := GD.out.cell 2
  have cGD3 : V8.cell? ⟨KGD, 3, none⟩ = some (.int .i64 A4) := GD.out.cell 3
  have cGD4 : V8.cell? ⟨KGD, 4, none⟩ = some (.int .i64 A5) := GD.out.cell 4
  have cGD5 : V8.cell? ⟨KGD, 5, none⟩ = some (.int .i64 A6) := GD.out.cell 5
  go_upto_region 7 with (fail)
  go_wp2_with fail
  refine (C5.out _).mono ?_
  rintro e w9 ⟨rfl, hb9⟩
  clear cG00 cG01 cG02 cG03 cG04 cG05 cG10 cG11 cG12 cG13 cG14 cG15 cG20 cG21 cGA0 cGA1 cGB0 cGB1 cGC0 cGC1 cGC2 cGC3 cGC4 cGC5 cGD0 cGD1 cGD2 cGD3 cGD4 cGD5
  replace G0 := Lib.hid (G0.out.below hb9 G0.out.lt)
  replace G1 := Lib.hid (G1.out.below hb9 G1.out.lt)
  replace G2 := Lib.hid (G2.out.below hb9 G2.out.lt)
  replace GA := Lib.hid (GA.out.below hb9 GA.out.lt)
  replace GB := Lib.hid (GB.out.below hb9 GB.out.lt)
  replace GC := Lib.hid (GC.out.below hb9 GC.out.lt)
  replace GD := Lib.hid (GD.out.below hb9 GD.out.lt)
  replace B := Lib.hid (bvia B.out hb9)
  clear hb9
  have cGC0 : w9.cell? ⟨KGC, 0, none⟩ = some (.int .i64 A1) := GC.out.cell 0
  have fGC0 : w9.frozen? ⟨KGC, 0, none⟩ = false := GC.out.free 0
  have cGC1 : w9.cell? ⟨KGC, 1, none⟩ = some (.int .i64 A2) := GC.out.cell 1
  have fGC1 : w9.frozen? ⟨KGC, 1, none⟩ = false := GC.out.free 1
  have cGC2 : w9.cell? ⟨KGC, 2, none⟩ = some (.int .i64 A3) := GC.out.cell 2
  have fGC2 : w9.frozen? ⟨KGC, 2, none⟩ = false := GC.out.free 2
  have cGC3 : w9.cell? ⟨KGC, 3, none⟩ = some (.int .i64 A4) := GC.out.cell 3
  have fGC3 : w9.frozen? ⟨KGC, 3, none⟩ = false := GC.out.free 3
  have cGC4 : w9.cell? ⟨KGC, 4, none⟩ = some (.int .i64 A5) := GC.out.cell 4
  have fGC4 : w9.frozen? ⟨KGC, 4, none⟩ = false := GC.out.free 4
  have cGC5 : w9.cell? ⟨KGC, 5, none⟩ = some (.int .i64 A6) := GC.out.cell 5
  have fGC5 : w9.frozen? ⟨KGC, 5, none⟩ = false := GC.out.free 5
  go_upto_region 8 with (fail)
  clear cGC0 fGC0 cGC1 fGC1 cGC2 fGC2 cGC3 fGC3 cGC4 fGC4 cGC5 fGC5
  have hbGC : w.heap.size ≤ KGC := by omega
  replace GC : Hid (Has ((((((w9.setCell ⟨KGC, 0, none⟩ (.int .i64 B1)).setCell ⟨KGC, 1, none⟩ (.int .i64 B2)).setCell ⟨KGC, 2, none⟩ (.int .i64 B3)).setCell ⟨KGC, 3, none⟩ (.int .i64 B4)).setCell ⟨KGC, 4, none⟩ (.int .i64 B5)).setCell ⟨KGC, 5, none⟩ (.int .i64 B6)) KGC 58 [.int .i64 B1, .int .i64 B2, .int .i64 B3, .int .i64 B4, .int .i64 B5, .int .i64 B6]) := ((((((GC.out.set 0 (.int .i64 B1)).set 1 (.int .i64 B2)).set 2 (.int .i64 B3)).set 3 (.int .i64 B4)).set 4 (.int .i64 B5)).set 5 (.int .i64 B6))
  replace G0 : Hid (Has ((((((w9.setCell ⟨KGC, 0, none⟩ (.int .i64 B1)).setCell ⟨KGC, 1, none⟩ (.int .i64 B2)).setCell ⟨KGC, 2, none⟩ (.int .i64 B3)).setCell ⟨KGC, 3, none⟩ (.int .i64 B4)).setCell ⟨KGC, 4, none⟩ (.int .i64 B5)).setCell ⟨KGC, 5, none⟩ (.int .i64 B6)) (w.heap.size) 58 [.int .i64 a, .int .i64 b, .int .i64 c, .int .i64 d, .int .i64 u, .int .i64 v]) := ((((((G0.out.far (by omega) 0 _).far (by omega) 1 _).far (by omega) 2 _).far (by omega) 3 _).far (by omega) 4 _).far (by omega) 5 _)
  replace G1 : Hid (Has ((((((w9.setCell ⟨KGC, 0, none⟩ (.int .i64 B1)).setCell ⟨KGC, 1, none⟩ (.int .i64 B2)).setCell ⟨KGC, 2, none⟩ (.int .i64 B3)).setCell ⟨KGC, 3, none⟩ (.int .i64 B4)).setCell ⟨KGC, 4, none⟩ (.int .i64 B5)).setCell ⟨KGC, 5, none⟩ (.int .i64 B6)) (w.heap.size + 1) 58 [.int .i64 p, .int .i64 q, .int .i64 r, .int .i64 s, .int .i64 x, .int .i64 y]) := ((((((G1.out.far (by omega) 0 _).far (by omega) 1 _).far (by omega) 2 _).far (by omega) 3 _).far (by omega) 4 _).far (by omega) 5 _)
  replace G2 : Hid (Has ((((((w9.setCell ⟨KGC, 0, none⟩ (.int .i64 B1)).setCell ⟨KGC, 1, none⟩ (.int .i64 B2)).setCell ⟨KGC, 2, none⟩ (.int .i64 B3)).setCell ⟨KGC, 3, none⟩ (.int .i64 B4)).setCell ⟨KGC, 4, none⟩ (.int .i64 B5)).setCell ⟨KGC, 5, none⟩ (.int .i64 B6)) (w.heap.size + 1 + 1) 25 [.int .i64 m, .int .i64 n]) := ((((((G2.out.far (by omega) 0 _).far (by omega) 1 _).far (by omega) 2 _).far (by omega) 3 _).far (by omega) 4 _).far (by omega) 5 _)
  replace GA : Hid (Has ((((((w9.setCell ⟨KGC, 0, none⟩ (.int .i64 B1)).setCell ⟨KGC, 1, none⟩ (.int .i64 B2)).setCell ⟨KGC, 2, none⟩ (.int .i64 B3)).setCell ⟨KGC, 3, none⟩ (.int .i64 B4)).setCell ⟨KGC, 4, none⟩ (.int .i64 B5)).setCell ⟨KGC, 5, none⟩ (.int .i64 B6)) (KGA) 25 [.int .i64 X, .int .i64 Y]) := ((((((GA.out.far (by omega) 0 _).far (by omega) 1 _).far (by omega) 2 _).far (by omega) 3 _).far (by omega) 4 _).far (by omega) 5 _)
  replace GB : Hid (Has ((((((w9.setCell ⟨KGC, 0, none⟩ (.int .i64 B1)).setCell ⟨KGC, 1, none⟩ (.int .i64 B2)).setCell ⟨KGC, 2, none⟩ (.int .i64 B3)).setCell ⟨KGC, 3, none⟩ (.int .i64 B4)).setCell ⟨KGC, 4, none⟩ (.int .i64 B5)).setCell ⟨KGC, 5, none⟩ (.int .i64 B6)) (KGB) 25 [.int .i64 X, .int .i64 Y]) := ((((((GB.out.far (by omega) 0 _).far (by omega) 1 _).far (by omega) 2 _).far (by omega) 3 _).far (by omega) 4 _).far (by omega) 5 _)
  replace GD : Hid (Has ((((((w9.setCell ⟨KGC, 0, none⟩ (.int .i64 B1)).setCell ⟨KGC, 1, none⟩ (.int .i64 B2)).setCell ⟨KGC, 2, none⟩ (.int .i64 B3)).setCell ⟨KGC, 3, none⟩ (.int .i64 B4)).setCell ⟨KGC, 4, none⟩ (.int .i64 B5)).setCell ⟨KGC, 5, none⟩ (.int .i64 B6)) (KGD) 58 [.int .i64 A1, .int .i64 A2, .int .i64 A3, .int .i64 A4, .int .i64 A5, .int .i64 A6]) := ((((((GD.out.far (by omega) 0 _).far (by omega) 1 _).far (by omega) 2 _).far (by omega) 3 _).far (by omega) 4 _).far (by omega) 5 _)
  replace B := Lib.hid ((((((B.out.setCell (p := ⟨KGC, 0, none⟩) hbGC (.int .i64 B1)).setCell (p := ⟨KGC, 1, none⟩) hbGC (.int .i64 B2)).setCell (p := ⟨KGC, 2, none⟩) hbGC (.int .i64 B3)).setCell (p := ⟨KGC, 3, none⟩) hbGC (.int .i64 B4)).setCell (p := ⟨KGC, 4, none⟩) hbGC (.int .i64 B5)).setCell (p := ⟨KGC, 5, none⟩) hbGC (.int .i64 B6))
  generalize (((((w9.setCell ⟨KGC, 0, none⟩ (.int .i64 B1)).setCell ⟨KGC, 1, none⟩ (.int .i64 B2)).setCell ⟨KGC, 2, none⟩ (.int .i64 B3)).setCell ⟨KGC, 3, none⟩ (.int .i64 B4)).setCell ⟨KGC, 4, none⟩ (.int .i64 B5)).setCell ⟨KGC, 5, none⟩ (.int .i64 B6) = V10 at *
  have cG00 : V10.cell? ⟨w.heap.size, 0, none⟩ = some (.int .i64 a) := G0.out.cell 0
  have cG01 : V10.cell? ⟨w.heap.size, 1, none⟩ = some (.int .i64 b) := G0.out.cell 1
  have cG02 : V10.cell? ⟨w.heap.size, 2, none⟩ = some (.int .i64 c) := G0.out.cell 2
  have cG03 : V10.cell? ⟨w.heap.size, 3, none⟩ = some (.int .i64 d) := G0.out.cell 3
  have cG04 : V10.cell? ⟨w.heap.size, 4, none⟩ = some (.int .i64 u) := G0.out.cell 4
  have cG05 : V10.cell? ⟨w.heap.size, 5, none⟩ = some (.int .i64 v) := G0.out.cell 5
  have cG10 : V10.cell? ⟨w.heap.size + 1, 0, none⟩ = some (.int .i64 p) := G1.out.cell 0
  have cG11 : V10.cell? ⟨w.heap.size + 1, 1, none⟩ = some (.int .i64 q) := G1.out.cell 1
  have cG12 : V10.cell? ⟨w.heap.size + 1, 2, none⟩ = some (.int .i64 r) := G1.out.cell 2
  have cG13 : V10.cell? ⟨w.heap.size + 1, 3, none⟩ = some (.int .i64 s) := G1.out.cell 3
  have cG14 : V10.cell? ⟨w.heap.size + 1, 4, none⟩ = some (.int .i64 x) := G1.out.cell 4
  have cG15 : V10.cell? ⟨w.heap.size + 1, 5, none⟩ = some (.int .i64 y) := G1.out.cell 5
  have cG20 : V10.cell? ⟨w.heap.size + 1 + 1, 0, none⟩ = some (.int .i64 m) := G2.out.cell 0
  have cG21 : V10.cell? ⟨w.heap.size + 1 + 1, 1, none⟩ = some (.int .i64 n) := G2.out.cell 1
  have cGA0 : V10.cell? ⟨KGA, 0, none⟩ = some (.int .i64 X) := GA.out.cell 0
  have cGA1 : V10.cell? ⟨KGA, 1, none⟩ = some (.int .i64 Y) := GA.out.cell 1
  have cGB0 : V10.cell? ⟨KGB, 0, none⟩ = some (.int .i64 X) := GB.out.cell 0
  have cGB1 : V10.cell? ⟨KGB, 1, none⟩ = some (.int .i64 Y) := GB.out.cell 1
  have cGC0 : V10.cell? ⟨KGC, 0, none⟩ = some (.int .i64 B1) := GC.out.cell 0
  have cGC1 : V10.cell? ⟨KGC, 1, none⟩ = some (.int .i64 B2) := GC.out.cell 1
  have cGC2 : V10.cell? ⟨KGC, 2, none⟩ = some (.int .i64 B3) := GC.out.cell 2
  have cGC3 : V10.cell? ⟨KGC, 3, none⟩ = some (.int .i64 B4) := GC.out.cell 3
  have cGC4 : V10.cell? ⟨KGC, 4, none⟩ = some (.int .i64 B5) := GC.out.cell 4
  have cGC5 : V10.cell? ⟨KGC, 5, none⟩ = some (.int .i64 B6) := GC.out.cell 5
  have cGD0 : V10.cell? ⟨KGD, 0, none⟩ = some (.int .i64 A1) := GD.out.cell 0
  have cGD1 : V10.cell? ⟨KGD, 1, none⟩ = some (.int .i64 A2) := GD.out.cell 1
  have cGD2 : V10.cell? ⟨KGD, 2, none⟩ = some (.int .i64 A3) := GD.out.cell 2
  have cGD3 : V10.cell? ⟨KGD, 3, none⟩ = some (.int .i64 A4) := GD.out.cell 3
  have cGD4 : V10.cell? ⟨KGD, 4, none⟩ = some (.int .i64 A5) := GD.out.cell 4
  have cGD5 : V10.cell? ⟨KGD, 5, none⟩ = some (.int .i64 A6) := GD.out.cell 5
  go_wp2_with fail
  refine (C6.out _).mono ?_
  rintro e w11 ⟨rfl, hb11⟩
  clear cG00 cG01 cG02 cG03 cG04 cG05 cG10 cG11 cG12 cG13 cG14 cG15 cG20 cG21 cGA0 cGA1 cGB0 cGB1 cGC0 cGC1 cGC2 cGC3 cGC4 cGC5 cGD0 cGD1 cGD2 cGD3 cGD4 cGD5
  replace G0 := Lib.hid (G0.out.below hb11 G0.out.lt)
  replace G1 := Lib.hid (G1.out.below hb11 G1.out.lt)
  replace G2 := Lib.hid (G2.out.below hb11 G2.out.lt)
  replace GA := Lib.hid (GA.out.below hb11 GA.out.lt)
  replace GB := Lib.hid (GB.out.below hb11 GB.out.lt)
  replace GC := Lib.hid (GC.out.below hb11 GC.out.lt)
  replace GD := Lib.hid (GD.out.below hb11 GD.out.lt)
  replace B := Lib.hid (bvia B.out hb11)
  clear hb11
  have cGD0 : w11.cell? ⟨KGD, 0, none⟩ = some (.int .i64 A1) := GD.out.cell 0
  have fGD0 : w11.frozen? ⟨KGD, 0, none⟩ = false := GD.out.free 0
  have cGD1 : w11.cell? ⟨KGD, 1, none⟩ = some (.int .i64 A2) := GD.out.cell 1
  have fGD1 : w11.frozen? ⟨KGD, 1, none⟩ = false := GD.out.free 1
  have cGD2 : w11.cell? ⟨KGD, 2, none⟩ = some (.int .i64 A3) := GD.out.cell 2
  have fGD2 : w11.frozen? ⟨KGD, 2, none⟩ = false := GD.out.free 2
  have cGD3 : w11.cell? ⟨KGD, 3, none⟩ = some (.int .i64 A4) := GD.out.cell 3
  have fGD3 : w11.frozen? ⟨KGD, 3, none⟩ = false := GD.out.free 3
  have cGD4 : w11.cell? ⟨KGD, 4, none⟩ = some (.int .i64 A5) := GD.out.cell 4
  have fGD4 : w11.frozen? ⟨KGD, 4, none⟩ = false := GD.out.free 4
  have cGD5 : w11.cell? ⟨KGD, 5, none⟩ = some (.int .i64 A6) := GD.out.cell 5
  have fGD5 : w11.frozen? ⟨KGD, 5, none⟩ = false := GD.out.free 5
  go_upto_region 9 with (fail)
  clear cGD0 fGD0 cGD1 fGD1 cGD2 fGD2 cGD3 fGD3 cGD4 fGD4 cGD5 fGD5
  have hbGD : w.heap.size ≤ KGD := by omega
  replace GD : Hid (Has ((((((w11.setCell ⟨KGD, 0, none⟩ (.int .i64 B1)).setCell ⟨KGD, 1, none⟩ (.int .i64 B2)).setCell ⟨KGD, 2, none⟩ (.int .i64 B3)).setCell ⟨KGD, 3, none⟩ (.int .i64 B4)).setCell ⟨KGD, 4, none⟩ (.int .i64 B5)).setCell ⟨KGD, 5, none⟩ (.int .i64 B6)) KGD 58 [.int .i64 B1, .int .i64 B2, .int .i64 B3, .int .i64 B4, .int .i64 B5, .int .i64 B6]) := ((((((GD.out.set 0 (.int .i64 B1)).set 1 (.int .i64 B2)).set 2 (.int .i64 B3)).set 3 (.int .i64 B4)).set 4 (.int .i64 B5)).set 5 (.int .i64 B6))
  replace G0 : Hid (Has ((((((w11.setCell ⟨KGD, 0, none⟩ (.int .i64 B1)).setCell ⟨KGD, 1, none⟩ (.int .i64 B2)).setCell ⟨KGD, 2, none⟩ (.int .i64 B3)).setCell ⟨KGD, 3, none⟩ (.int .i64 B4)).setCell ⟨KGD, 4, none⟩ (.int .i64 B5)).setCell ⟨KGD, 5, none⟩ (.int .i64 B6)) (w.heap.size) 58 [.int .i64 a, .int .i64 b, .int .i64 c, .int .i64 d, .int .i64 u, .int .i64 v]) := ((((((G0.out.far (by omega) 0 _).far (by omega) 1 _).far (by omega) 2 _).far (by omega) 3 _).far (by omega) 4 _).far (by omega) 5 _)
  replace G1 : Hid (Has ((((((w11.setCell ⟨KGD, 0, none⟩ (.int .i64 B1)).setCell ⟨KGD, 1, none⟩ (.int .i64 B2)).setCell ⟨KGD, 2, none⟩ (.int .i64 B3)).setCell ⟨KGD, 3, none⟩ (.int .i64 B4)).setCell ⟨KGD, 4, none⟩ (.int .i64 B5)).setCell ⟨KGD, 5, none⟩ (.int .i64 B6)) (w.heap.size + 1) 58 [.int .i64 p, .int .i64 q, .int .i64 r, .int .i64 s, .int .i64 x, .int .i64 y]) := ((((((G1.out.far (by omega) 0 _).far (by omega) 1 _).far (by omega) 2 _).far (by omega) 3 _).far (by omega) 4 _).far (by omega) 5 _)
  replace G2 : Hid (Has ((((((w11.setCell ⟨KGD, 0, none⟩ (.int .i64 B1)).setCell ⟨KGD, 1, none⟩ (.int .i64 B2)).setCell ⟨KGD, 2, none⟩ (.int .i64 B3)).setCell ⟨KGD, 3, none⟩ (.int .i64 B4)).setCell ⟨KGD, 4, none⟩ (.int .i64 B5)).setCell ⟨KGD, 5, none⟩ (.int .i64 B6)) (w.heap.size + 1 + 1) 25 [.int .i64 m, .int .i64 n]) := ((((((G2.out.far (by omega) 0 _).far (by omega) 1 _).far (by omega) 2 _).far (by omega) 3 _).far (by omega) 4 _).far (by omega) 5 _)
  replace GA : Hid (Has ((((((w11.setCell ⟨KGD, 0, none⟩ (.int .i64 B1)).setCell ⟨KGD, 1, none⟩ (.int .i64 B2)).setCell ⟨KGD, 2, none⟩ (.int .i64 B3)).setCell ⟨KGD, 3, none⟩ (.int .i64 B4)).setCell ⟨KGD, 4, none⟩ (.int .i64 B5)).setCell ⟨KGD, 5, none⟩ (.int .i64 B6)) (KGA) 25 [.int .i64 X, .int .i64 Y]) := ((((((GA.out.far (by omega) 0 _).far (by omega) 1 _).far (by omega) 2 _).far (by omega) 3 _).far (by omega) 4 _).far (by omega) 5 _)
  replace GB : Hid (Has ((((((w11.setCell ⟨KGD, 0, none⟩ (.int .i64 B1)).setCell ⟨KGD, 1, none⟩ (.int .i64 B2)).setCell ⟨KGD, 2, none⟩ (.int .i64 B3)).setCell ⟨KGD, 3, none⟩ (.int .i64 B4)).setCell ⟨KGD, 4, none⟩ (.int .i64 B5)).setCell ⟨KGD, 5, none⟩ (.int .i64 B6)) (KGB) 25 [.int .i64 X, .int .i64 Y]) := ((((((GB.out.far (by omega) 0 _).far (by omega) 1 _).far (by omega) 2 _).far (by omega) 3 _).far (by omega) 4 _).far (by omega) 5 _)
  replace GC : Hid (Has ((((((w11.setCell ⟨KGD, 0, none⟩ (.int .i64 B1)).setCell ⟨KGD, 1, none⟩ (.int .i64 B2)).setCell ⟨KGD, 2, none⟩ (.int .i64 B3)).setCell ⟨KGD, 3, none⟩ (.int .i64 B4)).setCell ⟨KGD, 4, none⟩ (.int .i64 B5)).setCell ⟨KGD, 5, none⟩ (.int .i64 B6)) (KGC) 58 [.int .i64 B1, .int .i64 B2, .int .i64 B3, .int .i64 B4, .int .i64 B5, .int .i64 B6]) := ((((((GC.out.far (by omega) 0 _).far (by omega) 1 _).far (by omega) 2 _).far (by omega) 3 _).far (by omega) 4 _).far (by omega) 5 _)
  replace B := Lib.hid ((((((B.out.setCell (p := ⟨KGD, 0, none⟩) hbGD (.int .i64 B1)).setCell (p := ⟨KGD, 1, none⟩) hbGD (.int .i64 B2)).setCell (p := ⟨KGD, 2, none⟩) hbGD (.int .i64 B3)).setCell (p := ⟨KGD, 3, none⟩) hbGD (.int .i64 B4)).setCell (p := ⟨KGD, 4, none⟩) hbGD (.int .i64 B5)).setCell (p := ⟨KGD, 5, none⟩) hbGD (.int .i64 B6))
  generalize (((((w11.setCell ⟨KGD, 0, none⟩ (.int .i64 B1)).setCell ⟨KGD, 1, none⟩ (.int .i64 B2)).setCell ⟨KGD, 2, none⟩ (.int .i64 B3)).setCell ⟨KGD, 3, none⟩ (.int .i64 B4)).setCell ⟨KGD, 4, none⟩ (.int .i64 B5)).setCell ⟨KGD, 5, none⟩ (.int .i64 B6) = V12 at *
  have cG00 : V12.cell? ⟨w.heap.size, 0, none⟩ = some (.int .i64 a) := G0.out.cell 0
  have cG01 : V12.cell? ⟨w.heap.size, 1, none⟩ = some (.int .i64 b) := G0.out.cell 1
  have cG02 : V12.cell? ⟨w.heap.size, 2, none⟩ = some (.int .i64 c) := G0.out.cell 2
  have cG03 : V12.cell? ⟨w.heap.size, 3, none⟩ = some (.int .i64 d) := G0.out.cell 3
  have cG04 : V12.cell? ⟨w.heap.size, 4, none⟩ = some (.int .i64 u) := G0.out.cell 4
  have cG05 : V12.cell? ⟨w.heap.size, 5, none⟩ = some (.int .i64 v) := G0.out.cell 5
  have cG10 : V12.cell? ⟨w.heap.size + 1, 0, none⟩ = some (.int .i64 p) := G1.out.cell 0
  have cG11 : V12.cell? ⟨w.heap.size + 1, 1, none⟩ = some (.int .i64 q) := G1.out.cell 1
  have cG12 : V12.cell? ⟨w.heap.size + 1, 2, none⟩ = some (.int .i64 r) := G1.out.cell 2
  have cG13 : V12.cell? ⟨w.heap.size + 1, 3, none⟩ = some (.int .i64 s) := G1.out.cell 3
  have cG14 : V12.cell? ⟨w.heap.size + 1, 4, none⟩ = some (.int .i64 x) := G1.out.cell 4
  have cG15 : V12.cell? ⟨w.heap.size + 1, 5, none⟩ = some (.int .i64 y) := G1.out.cell 5
  have cG20 : V12.cell? ⟨w.heap.size + 1 + 1, 0, none⟩ = some (.int .i64 m) := G2.out.cell 0
  have cG21 : V12.cell? ⟨w.heap.size + 1 + 1, 1, none⟩ = some (.int .i64 n) := G2.out.cell 1
  have cGA0 : V12.cell? ⟨KGA, 0, none⟩ = some (.int .i64 X) := GA.out.cell 0
  have cGA1 : V12.cell? ⟨KGA, 1, none⟩ = some (.int .i64 Y) := GA.out.cell 1
  have cGB0 : V12.cell? ⟨KGB, 0, none⟩ = some (.int .i64 X) := GB.out.cell 0
  have cGB1 : V12.cell? ⟨KGB, 1, none⟩ = some (.int .i64 Y) := GB.out.cell 1
  have cGC0 : V12.cell? ⟨KGC, 0, none⟩ = some (.int .i64 B1) := GC.out.cell 0
  have cGC1 : V12.cell? ⟨KGC, 1, none⟩ = some (.int .i64 B2) := GC.out.cell 1
  have cGC2 : V12.cell? ⟨KGC, 2, none⟩ = some (.int .i64 B3) := GC.out.cell 2
  have cGC3 : V12.cell? ⟨KGC, 3, none⟩ = some (.int .i64 B4) := GC.out.cell 3
  have cGC4 : V12.cell? ⟨KGC, 4, none⟩ = some (.int .i64 B5) := GC.out.cell 4
  have cGC5 : V12.cell? ⟨KGC, 5, none⟩ = some (.int .i64 B6) := GC.out.cell 5
  have cGD0 : V12.cell? ⟨KGD, 0, none⟩ = some (.int .i64 B1) := GD.out.cell 0
  have cGD1 : V12.cell? ⟨KGD, 1, none⟩ = some (.int .i64 B2) := GD.out.cell 1
  have cGD2 : V12.cell? ⟨KGD, 2, none⟩ = some (.int .i64 B3) := GD.out.cell 2
  have cGD3 : V12.cell? ⟨KGD, 3, none⟩ = some (.int .i64 B4) := GD.out.cell 3
  have cGD4 : V12.cell? ⟨KGD, 4, none⟩ = some (.int .i64 B5) := GD.out.cell 4
  have cGD5 : V12.cell? ⟨KGD, 5, none⟩ = some (.int .i64 B6) := GD.out.cell 5
  go_wp2_with fail
  refine (C7.out _).mono ?_
  rintro e w13 ⟨rfl, hb13⟩
  clear cG00 cG01 cG02 cG03 cG04 cG05 cG10 cG11 cG12 cG13 cG14 cG15 cG20 cG21 cGA0 cGA1 cGB0 cGB1 cGC0 cGC1 cGC2 cGC3 cGC4 cGC5 cGD0 cGD1 cGD2 cGD3 cGD4 cGD5
  replace G0 := Lib.hid (G0.out.below hb13 G0.out.lt)
  replace G1 := Lib.hid (G1.out.below hb13 G1.out.lt)
  replace G2 := Lib.hid (G2.out.below hb13 G2.out.lt)
  replace GA := Lib.hid (GA.out.below hb13 GA.out.lt)
  replace GB := Lib.hid (GB.out.below hb13 GB.out.lt)
  replace GC := Lib.hid (GC.out.below hb13 GC.out.lt)
  replace GD := Lib.hid (GD.out.below hb13 GD.out.lt)
  replace B := Lib.hid (bvia B.out hb13)
  clear hb13
  have cG00 : w13.cell? ⟨w.heap.size, 0, none⟩ = some (.int .i64 a) := G0.out.cell 0
  have cG01 : w13.cell? ⟨w.heap.size, 1, none⟩ = some (.int .i64 b) := G0.out.cell 1
  have cG02 : w13.cell? ⟨w.heap.size, 2, none⟩ = some (.int .i64 c) := G0.out.cell 2
  have cG03 : w13.cell? ⟨w.heap.size, 3, none⟩ = some (.int .i64 d) := G0.out.cell 3
  have cG04 : w13.cell? ⟨w.heap.size, 4, none⟩ = some (.int .i64 u) := G0.out.cell 4
  have cG05 : w13.cell? ⟨w.heap.size, 5, none⟩ = some (.int .i64 v) := G0.out.cell 5
  have cG10 : w13.cell? ⟨w.heap.size + 1, 0, none⟩ = some (.int .i64 p) := G1.out.cell 0
  have cG11 : w13.cell? ⟨w.heap.size + 1, 1, none⟩ = some (.int .i64 q) := G1.out.cell 1
  have cG12 : w13.cell? ⟨w.heap.size + 1, 2, none⟩ = some (.int .i64 r) := G1.out.cell 2
  have cG13 : w13.cell? ⟨w.heap.size + 1, 3, none⟩ = some (.int .i64 s) := G1.out.cell 3
  have cG14 : w13.cell? ⟨w.heap.size + 1, 4, none⟩ = some (.int .i64 x) := G1.out.cell 4
  have cG15 : w13.cell? ⟨w.heap.size + 1, 5, none⟩ = some (.int .i64 y) := G1.out.cell 5
  have cG20 : w13.cell? ⟨w.heap.size + 1 + 1, 0, none⟩ = some (.int .i64 m) := G2.out.cell 0
  have cG21 : w13.cell? ⟨w.heap.size + 1 + 1, 1, none⟩ = some (.int .i64 n) := G2.out.cell 1
  have cGA0 : w13.cell? ⟨KGA, 0, none⟩ = some (.int .i64 X) := GA.out.cell 0
  have cGA1 : w13.cell? ⟨KGA, 1, none⟩ = some (.int .i64 Y) := GA.out.cell 1
  have cGB0 : w13.cell? ⟨KGB, 0, none⟩ = some (.int .i64 X) := GB.out.cell 0
  have cGB1 : w13.cell? ⟨KGB, 1, none⟩ = some (.int .i64 Y) := GB.out.cell 1
  have cGC0 : w13.cell? ⟨KGC, 0, none⟩ = some (.int .i64 B1) := GC.out.cell 0
  have cGC1 : w13.cell? ⟨KGC, 1, none⟩ = some (.int .i64 B2) := GC.out.cell 1
  have cGC2 : w13.cell? ⟨KGC, 2, none⟩ = some (.int .i64 B3) := GC.out.cell 2
  have cGC3 : w13.cell? ⟨KGC, 3, none⟩ = some (.int .i64 B4) := GC.out.cell 3
  have cGC4 : w13.cell? ⟨KGC, 4, none⟩ = some (.int .i64 B5) := GC.out.cell 4
  have cGC5 : w13.cell? ⟨KGC, 5, none⟩ = some (.int .i64 B6) := GC.out.cell 5
  have cGD0 : w13.cell? ⟨KGD, 0, none⟩ = some (.int .i64 B1) := GD.out.cell 0
  have cGD1 : w13.cell? ⟨KGD, 1, none⟩ = some (.int .i64 B2) := GD.out.cell 1
  have cGD2 : w13.cell? ⟨KGD, 2, none⟩ = some (.int .i64 B3) := GD.out.cell 2
  have cGD3 : w13.cell? ⟨KGD, 3, none⟩ = some (.int .i64 B4) := GD.out.cell 3
  have cGD4 : w13.cell? ⟨KGD, 4, none⟩ = some (.int .i64 B5) := GD.out.cell 4
  have cGD5 : w13.cell? ⟨KGD, 5, none⟩ = some (.int .i64 B6) := GD.out.cell 5
  go_wp2_with fail
  refine (C8.out _).mono ?_
  rintro e w14 ⟨rfl, hb14⟩
  clear cG00 cG01 cG02 cG03 cG04 cG05 cG10 cG11 cG12 cG13 cG14 cG15 cG20 cG21 cGA0 cGA1 cGB0 cGB1 cGC0 cGC1 cGC2 cGC3 cGC4 cGC5 cGD0 cGD1 cGD2 cGD3 cGD4 cGD5
  replace G0 := Lib.hid (G0.out.below hb14 G0.out.lt)
  replace G1 := Lib.hid (G1.out.below hb14 G1.out.lt)
  replace G2 := Lib.hid (G2.out.below hb14 G2.out.lt)
  replace GA := Lib.hid (GA.out.below hb14 GA.out.lt)
  replace GB := Lib.hid (GB.out.below hb14 GB.out.lt)
  replace GC := Lib.hid (GC.out.below hb14 GC.out.lt)
  replace GD := Lib.hid (GD.out.below hb14 GD.out.lt)
  replace B := Lib.hid (bvia B.out hb14)
  clear hb14
  have cG00 : w14.cell? ⟨w.heap.size, 0, none⟩ = some (.int .i64 a) := G0.out.cell 0
  have cG01 : w14.cell? ⟨w.heap.size, 1, none⟩ = some (.int .i64 b) := G0.out.cell 1
  have cG02 : w14.cell? ⟨w.heap.size, 2, none⟩ = some (.int .i64 c) := G0.out.cell 2
  have cG03 : w14.cell? ⟨w.heap.size, 3, none⟩ = some (.int .i64 d) := G0.out.cell 3
  have cG04 : w14.cell? ⟨w.heap.size, 4, none⟩ = some (.int .i64 u) := G0.out.cell 4
  have cG05 : w14.cell? ⟨w.heap.size, 5, none⟩ = some (.int .i64 v) := G0.out.cell 5
  have cG10 : w14.cell? ⟨w.heap.size + 1, 0, none⟩ = some (.int .i64 p) := G1.out.cell 0
  have cG11 : w14.cell? ⟨w.heap.size + 1, 1, none⟩ = some (.int .i64 q) := G1.out.cell 1
  have cG12 : w14.cell? ⟨w.heap.size + 1, 2, none⟩ = some (.int .i64 r) := G1.out.cell 2
  have cG13 : w14.cell? ⟨w.heap.size + 1, 3, none⟩ = some (.int .i64 s) := G1.out.cell 3
  have cG14 : w14.cell? ⟨w.heap.size + 1, 4, none⟩ = some (.int .i64 x) := G1.out.cell 4
  have cG15 : w14.cell? ⟨w.heap.size + 1, 5, none⟩ = some (.int .i64 y) := G1.out.cell 5
  have cG20 : w14.cell? ⟨w.heap.size + 1 + 1, 0, none⟩ = some (.int .i64 m) := G2.out.cell 0
  have cG21 : w14.cell? ⟨w.heap.size + 1 + 1, 1, none⟩ = some (.int .i64 n) := G2.out.cell 1
  have cGA0 : w14.cell? ⟨KGA, 0, none⟩ = some (.int .i64 X) := GA.out.cell 0
  have cGA1 : w14.cell? ⟨KGA, 1, none⟩ = some (.int .i64 Y) := GA.out.cell 1
  have cGB0 : w14.cell? ⟨KGB, 0, none⟩ = some (.int .i64 X) := GB.out.cell 0
  have cGB1 : w14.cell? ⟨KGB, 1, none⟩ = some (.int .i64 Y) := GB.out.cell 1
  have cGC0 : w14.cell? ⟨KGC, 0, none⟩ = some (.int .i64 B1) := GC.out.cell 0
  have cGC1 : w14.cell? ⟨KGC, 1, none⟩ = some (.int .i64 B2) := GC.out.cell 1
  have cGC2 : w14.cell? ⟨KGC, 2, none⟩ = some (.int .i64 B3) := GC.out.cell 2
  have cGC3 : w14.cell? ⟨KGC, 3, none⟩ = some (.int .i64 B4) := GC.out.cell 3
  have cGC4 : w14.cell? ⟨KGC, 4, none⟩ = some (.int .i64 B5) := GC.out.cell 4
  have cGC5 : w14.cell? ⟨KGC, 5, none⟩ = some (.int .i64 B6) := GC.out.cell 5
  have cGD0 : w14.cell? ⟨KGD, 0, none⟩ = some (.int .i64 B1) := GD.out.cell 0
  have cGD1 : w14.cell? ⟨KGD, 1, none⟩ = some (.int .i64 B2) := GD.out.cell 1
  have cGD2 : w14.cell? ⟨KGD, 2, none⟩ = some (.int .i64 B3) := GD.out.cell 2
  have cGD3 : w14.cell? ⟨KGD, 3, none⟩ = some (.int .i64 B4) := GD.out.cell 3
  have cGD4 : w14.cell? ⟨KGD, 4, none⟩ = some (.int .i64 B5) := GD.out.cell 4
  have cGD5 : w14.cell? ⟨KGD, 5, none⟩ = some (.int .i64 B6) := GD.out.cell 5
  go_wp2_with fail
  go_wp2_with fail
  refine (awakeC _).mono ?_
  rintro e w15 ⟨rfl, hb15⟩
  clear cG00 cG01 cG02 cG03 cG04 cG05 cG10 cG11 cG12 cG13 cG14 cG15 cG20 cG21 cGA0 cGA1 cGB0 cGB1 cGC0 cGC1 cGC2 cGC3 cGC4 cGC5 cGD0 cGD1 cGD2 cGD3 cGD4 cGD5
  replace G0 := Lib.hid (G0.out.below hb15 G0.out.lt)
  replace G1 := Lib.hid (G1.out.below hb15 G1.out.lt)
  replace G2 := Lib.hid (G2.out.below hb15 G2.out.lt)
  replace GA := Lib.hid (GA.out.below hb15 GA.out.lt)
  replace GB := Lib.hid (GB.out.below hb15 GB.out.lt)
  replace GC := Lib.hid (GC.out.below hb15 GC.out.lt)
  replace GD := Lib.hid (GD.out.below hb15 GD.out.lt)
  replace B := Lib.hid (bvia B.out hb15)
  clear hb15
  go_wp2
  go_ret
  exact ⟨rfl, B.out⟩
end Go.Proofs.Ytmghpaibdgkbfaa
/-
  Plain law of GridsBack: a move undone; three moves one behind another.
-/
namespace Go.Proofs.Ytmghpaibdgkbfaa
theorem vV_inj {a b c d u v p q r s x y : Int} (h : vV a b c d u v = vV p q r s x y) : a = p ∧ b = q ∧ c = r ∧ d = s ∧ u = x ∧ v = y := by
  simpa using h
/-- a composition without error -/
theorem comp_ok {a b c d u v p q r s x y A B C D E F : Int} (h : compR a b c d u v p q r s x y = (vV A B C D E F, 0)) :
    (okV a b c d u v = true ∧ okV p q r s x y = true ∧ okV A B C D E F = true) ∧ A = a * p + b * r ∧ B = a * q + b * s ∧ C = c * p + d * r ∧ D = c * q + d * s ∧ E = imX a b u x y ∧ F = imX c d v x y := by
  unfold compR at h
  split at h
  · rename_i h1
    split at h
    · rename_i h2
      obtain ⟨e, _⟩ := Prod.mk.inj h
      obtain ⟨e1, e2, e3, e4, e5, e6⟩ := vV_inj e
      subst e1 e2 e3 e4 e5 e6
      exact ⟨⟨h1.1, h1.2, h2⟩, rfl, rfl, rfl, rfl, rfl, rfl⟩
    · have := (Prod.mk.inj h).2
      exact absurd this (by decide)
  · have := (Prod.mk.inj h).2
    exact absurd this (by decide)
theorem ap_ok {a b c d u v x y X Y : Int} (h : apR a b c d u v x y = (X, Y, 0)) : (okV a b c d u v = true ∧ okP x y = true ∧ okP X Y = true) ∧ X = imX a b u x y ∧ Y = imX c d v x y := by
  unfold apR at h
  split at h
  · rename_i h1
    split at h
    · rename_i h2
      simp only [Prod.mk.injEq] at h
      obtain ⟨rfl, rfl, _⟩ := h
      exact ⟨⟨h1.1, h1.2, h2⟩, rfl, rfl⟩
    · simp only [Prod.mk.injEq] at h
      exact absurd h.2.2 (by decide)
  · simp only [Prod.mk.injEq] at h
    exact absurd h.2.2 (by decide)
theorem inv_ok {a b c d u v A B C D E F : Int} (h : invR a b c d u v = (vV A B C D E F, 0)) : (okV a b c d u v = true ∧ (a * d - b * c = 1 ∨ a * d - b * c = -1) ∧ okV A B C D E F = true) ∧ invQ a b c d u v = (A, B, C, D, E, F) := by
  unfold invR at h
  split at h
  · rename_i h1
    split at h
    · rename_i h2
      split at h
      · rename_i h3
        obtain ⟨e, _⟩ := Prod.mk.inj h
        unfold vV6 at e
        obtain ⟨e1, e2, e3, e4, e5, e6⟩ := vV_inj e
        unfold okV6 at h3
        rw [e1, e2, e3, e4, e5, e6] at h3
        refine ⟨⟨h1, h2, h3⟩, ?_⟩
        rw [← e1, ← e2, ← e3, ← e4, ← e5, ← e6]
      · have := (Prod.mk.inj h).2
        exact absurd this (by decide)
    · have := (Prod.mk.inj h).2
      exact absurd this (by decide)
  · have := (Prod.mk.inj h).2
    exact absurd this (by decide)
theorem inv_ap {a b c d u v x y A B C D E F X Y : Int} (h : invR a b c d u v = (vV A B C D E F, 0)) (k : apR a b c d u v x y = (X, Y, 0)) : apR A B C D E F X Y = (x, y, 0) := by
  obtain ⟨⟨_, hD, hv⟩, hq⟩ := inv_ok h
  obtain ⟨⟨_, hp, hP⟩, rfl, rfl⟩ := ap_ok k
  unfold invQ at hq
  simp only [Prod.mk.injEq] at hq
  obtain ⟨rfl, rfl, rfl, rfl, rfl, rfl⟩ := hq
  have hs : (a * d - b * c) * (a * d - b * c) = 1 := by rcases hD with h | h <;> rw [h] <;> rfl
  have ex : imX ((a * d - b * c) * d) (-(a * d - b * c) * b) (-((a * d - b * c) * d * u + -(a * d - b * c) * b * v + 0)) (imX a b u x y) (imX c d v x y) = x := by
    unfold imX
    grind
  have ey : imX (-(a * d - b * c) * c) ((a * d - b * c) * a) (-(-(a * d - b * c) * c * u + (a * d - b * c) * a * v + 0)) (imX a b u x y) (imX c d v x y) = y := by
    unfold imX
    grind
  unfold apR
  rw [if_pos ⟨hv, hP⟩, ex, ey, if_pos hp]
theorem comp_assoc {a b c d u v p q r s x y e f g h m n A1 A2 A3 A4 A5 A6 B1 B2 B3 B4 B5 B6 : Int} (hA : compR a b c d u v p q r s x y = (vV A1 A2 A3 A4 A5 A6, 0)) (hB : compR p q r s x y e f g h m n = (vV B1 B2 B3 B4 B5 B6, 0)) :
    compR A1 A2 A3 A4 A5 A6 e f g h m n = compR a b c d u v B1 B2 B3 B4 B5 B6 := by
  obtain ⟨⟨o1, o2, o3⟩, rfl, rfl, rfl, rfl, rfl, rfl⟩ := comp_ok hA
  obtain ⟨⟨_, o5, o6⟩, rfl, rfl, rfl, rfl, rfl, rfl⟩ := comp_ok hB
  unfold compR
  rw [if_pos ⟨o3, o5⟩, if_pos (show okV a b c d u v = true ∧ okV _ _ _ _ _ _ = true from ⟨o1, o6⟩)]
  have e1 : (a * p + b * r) * e + (a * q + b * s) * g = a * (p * e + q * g) + b * (r * e + s * g) := by grind
  have e2 : (a * p + b * r) * f + (a * q + b * s) * h = a * (p * f + q * h) + b * (r * f + s * h) := by grind
  have e3 : (c * p + d * r) * e + (c * q + d * s) * g = c * (p * e + q * g) + d * (r * e + s * g) := by grind
  have e4 : (c * p + d * r) * f + (c * q + d * s) * h = c * (p * f + q * h) + d * (r * f + s * h) := by grind
  have e5 : imX (a * p + b * r) (a * q + b * s) (imX a b u x y) m n = imX a b u (imX p q x m n) (imX r s y m n) := by unfold imX; grind
  have e6 : imX (c * p + d * r) (c * q + d * s) (imX c d v x y) m n = imX c d v (imX p q x m n) (imX r s y m n) := by unfold imX; grind
  rw [e1, e2, e3, e4, e5, e6]
theorem ap_comp {a b c d u v p q r s x y m n S1 S2 A1 A2 A3 A4 A5 A6 : Int} (hA : compR a b c d u v p q r s x y = (vV A1 A2 A3 A4 A5 A6, 0)) (hs : apR p q r s x y m n = (S1, S2, 0)) : apR a b c d u v S1 S2 = apR A1 A2 A3 A4 A5 A6 m n := by
  obtain ⟨⟨o1, o2, o3⟩, rfl, rfl, rfl, rfl, rfl, rfl⟩ := comp_ok hA
  obtain ⟨⟨_, o5, o6⟩, rfl, rfl⟩ := ap_ok hs
  have e5 : imX (a * p + b * r) (a * q + b * s) (imX a b u x y) m n = imX a b u (imX p q x m n) (imX r s y m n) := by unfold imX; grind
  have e6 : imX (c * p + d * r) (c * q + d * s) (imX c d v x y) m n = imX c d v (imX p q x m n) (imX r s y m n) := by unfold imX; grind
  unfold apR
  rw [if_pos ⟨o1, o6⟩, if_pos (show okV _ _ _ _ _ _ = true ∧ okP m n = true from ⟨o3, o5⟩), e5, e6]
end Go.Proofs.Ytmghpaibdgkbfaa
/-
  An argument that is an array of three moves.
-/
namespace Go.Proofs.Ytmghpaibdgkbfaa
open Go.RowKit Go.ChangeShapes Go.WideShapes Go.ChangeAt Go.Joins Go.Deep
section
variable {H : Type} {enc : TypeId × Value → H} {w : World} {held : Bool}
set_option maxRecDepth 100000 in
theorem openMoves {r : Reach} {b0 : Nat} {v : Value} {d : DataW H} {ps : List MemPlace} {sp : Nat → Bool} (hv : Value.okWide Try.prog w r b0 70 v) (h : DataW.Trod enc Try.prog w 0 sp held 70 v d ps) :
    ∃ a0 a1 a2 a3 a4 a5 b0 b1 b2 b3 b4 b5 c0 c1 c2 c3 c4 c5 : Int, v = .agg #[.int .i64 a0, .int .i64 a1, .int .i64 a2, .int .i64 a3, .int .i64 a4, .int .i64 a5, .int .i64 b0, .int .i64 b1, .int .i64 b2, .int .i64 b3, .int .i64 b4, .int .i64 b5, .int .i64 c0, .int .i64 c1, .int .i64 c2, .int .i64 c3, .int .i64 c4, .int .i64 c5] := by
  unfold Value.okWide at hv
  rw [Try.underlying70] at hv
  obtain ⟨cs, rfl, _, _⟩ := hv
  obtain ⟨fuel, hf⟩ := h
  obtain ⟨xs, m, _, _, hl, hx, he⟩ := DataW.trod_array Try.underlying70 hf
  rw [show Try.prog.cellsOf 70 = 18 by kernel_rfl] at hl
  have e0 := he 0 (by decide)
  have e1 := he 1 (by decide)
  have e2 := he 2 (by decide)
  match xs, hx with
  | [y0, y1, y2], _ =>
    obtain ⟨l⟩ := cs
    change l.length = 18 at hl
    match l, hl with
    | [v0, v1, v2, v3, v4, v5, v6, v7, v8, v9, v10, v11, v12, v13, v14, v15, v16, v17], _ =>
      simp [cellsV, Value.cells] at e0 e1 e2
      obtain ⟨a0, a1, a2, a3, a4, a5, k0⟩ := cells_mv e0
      obtain ⟨b0, b1, b2, b3, b4, b5, k1⟩ := cells_mv e1
      obtain ⟨c0, c1, c2, c3, c4, c5, k2⟩ := cells_mv e2
      simp at k0 k1 k2
      obtain ⟨rfl, rfl, rfl, rfl, rfl, rfl⟩ := k0
      obtain ⟨rfl, rfl, rfl, rfl, rfl, rfl⟩ := k1
      obtain ⟨rfl, rfl, rfl, rfl, rfl, rfl⟩ := k2
      exact ⟨a0, a1, a2, a3, a4, a5, b0, b1, b2, b3, b4, b5, c0, c1, c2, c3, c4, c5, rfl⟩
end
end Go.Proofs.Ytmghpaibdgkbfaa
