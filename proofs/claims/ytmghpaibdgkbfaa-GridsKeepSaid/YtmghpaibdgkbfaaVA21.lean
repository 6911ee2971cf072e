/-
  Contracts of chapter 6: near and in of the law, Keeps of the program.
-/
import Derived.Test.YtmghpaibdgkbfaaVA8
import Derived.Test.YtmghpaibdgkbfaaVA9
import Derived.Test.YtmghpaibdgkbfaaVA14
import Derived.Test.YtmghpaibdgkbfaaVA19
import Derived.Deep.CutRange
namespace Go.Proofs.Ytmghpaibdgkbfaa
open Go.RowKit
theorem sameM_iff (a b c d p q r s : Int) : sameM a b c d p q r s = true ↔ (⟨a, b, c, d⟩ : La.Mat) = ⟨p, q, r, s⟩ := by unfold sameM; simp
set_option maxRecDepth 100000 in
set_option maxHeartbeats 1000000 in
theorem nearC (x y : Int) (w : World) : Calls Try.prog 43 #[vP x y] w fun e w' => e = .returned (vP (x.tmod 11) (y.tmod 11)) ∧ Below w.heap.size w w' := by
  have G0 : Hid (Has (boxW w [([.int .i64 x, .int .i64 y], 25), ([.int .i64 0, .int .i64 0], 25)]) (w.heap.size) 25 [.int .i64 x, .int .i64 y]) := box_has [([.int .i64 x, .int .i64 y], 25), ([.int .i64 0, .int .i64 0], 25)] (w := w) (Below.refl _ _) (i := 0) rfl
  have G1 : Hid (Has (boxW w [([.int .i64 x, .int .i64 y], 25), ([.int .i64 0, .int .i64 0], 25)]) (w.heap.size + 1) 25 [.int .i64 0, .int .i64 0]) := box_has [([.int .i64 x, .int .i64 y], 25), ([.int .i64 0, .int .i64 0], 25)] (w := w) (Below.refl _ _) (i := 1) rfl
  have B := Lib.hid (boxW_below [([.int .i64 x, .int .i64 y], 25), ([.int .i64 0, .int .i64 0], 25)] w)
  obtain ⟨W1, hW1⟩ : ∃ W1, W1 = boxW w [([.int .i64 x, .int .i64 y], 25), ([.int .i64 0, .int .i64 0], 25)] := ⟨_, rfl⟩
  rw [← hW1] at G0 G1 B
  go_enter Try.func43, Try.ntmps43
  go_upto_region 1 with (fail)
  rw [show (w.alloc (.cells #[.int .i64 x, .int .i64 y] 25)).alloc (.cells #[.int .i64 0, .int .i64 0] 25) = W1 from hW1.symm]
  clear hW1
  have cG00 : W1.cell? ⟨w.heap.size, 0, none⟩ = some (.int .i64 x) := G0.out.cell 0
  have cG01 : W1.cell? ⟨w.heap.size, 1, none⟩ = some (.int .i64 y) := G0.out.cell 1
  go_wp2_with fail
  refine (ptC _ _ _).mono ?_
  rintro e w1 ⟨rfl, hb1⟩
  clear cG00 cG01
  replace G0 := Lib.hid (G0.out.below hb1 G0.out.lt)
  replace G1 := Lib.hid (G1.out.below hb1 G1.out.lt)
  replace B := Lib.hid (bvia B.out hb1)
  clear hb1
  have cG10 : w1.cell? ⟨w.heap.size + 1, 0, none⟩ = some (.int .i64 0) := G1.out.cell 0
  have fG10 : w1.frozen? ⟨w.heap.size + 1, 0, none⟩ = false := G1.out.free 0
  have cG11 : w1.cell? ⟨w.heap.size + 1, 1, none⟩ = some (.int .i64 0) := G1.out.cell 1
  have fG11 : w1.frozen? ⟨w.heap.size + 1, 1, none⟩ = false := G1.out.free 1
  go_wp2
  refine post_cell (g := w.heap.size + 1) (t := 25) (cs := [.int .i64 (x.tmod 11), .int .i64 (y.tmod 11)]) ((G1.out.set 0 _).set 1 _) Try.results43 rfl rfl Try.underlying25 (by kernel_rfl) ⟨rfl, ?_⟩
  exact (B.out.setCell (p := ⟨w.heap.size + 1, 0, none⟩) (Nat.le_succ _) _).setCell (p := ⟨w.heap.size + 1, 1, none⟩) (Nat.le_succ _) _
set_option maxRecDepth 100000 in
set_option maxHeartbeats 2000000 in
theorem inC (A : Option Addr) (n cp : Nat) (l : List La.Mat) (p q r s : Int) (w : World) (hr : RdM4 w w.heap.size A l) (hl : l.length = n) (hn : n ≤ 1000) :
    Calls Try.prog 44 #[.slice A n cp, vM p q r s] w fun e w' => e = .returned (.bool (decide ((⟨p, q, r, s⟩ : La.Mat) ∈ l))) ∧ Below w.heap.size w w' := by
  have HR := Lib.hid hr
  have HL := Lib.hid hl
  clear hr hl
  have G0 : Hid (Has (boxW w [([.int .i64 p, .int .i64 q, .int .i64 r, .int .i64 s], 40)]) (w.heap.size) 40 [.int .i64 p, .int .i64 q, .int .i64 r, .int .i64 s]) := box_has [([.int .i64 p, .int .i64 q, .int .i64 r, .int .i64 s], 40)] (w := w) (Below.refl _ _) (i := 0) rfl
  have B := Lib.hid (boxW_below [([.int .i64 p, .int .i64 q, .int .i64 r, .int .i64 s], 40)] w)
  obtain ⟨W1, hW1⟩ : ∃ W1, W1 = boxW w [([.int .i64 p, .int .i64 q, .int .i64 r, .int .i64 s], 40)] := ⟨_, rfl⟩
  rw [← hW1] at G0 B
  go_enter Try.func44, Try.ntmps44
  go_upto_region 1 with (fail)
  rw [show w.alloc (.cells #[.int .i64 p, .int .i64 q, .int .i64 r, .int .i64 s] 40) = W1 from hW1.symm]
  clear hW1
  go_wp2
  go_loopw [5] (fun i wr => ∃ k : Nat, k ≤ n ∧ i = .int .i64 (k : Int) ∧ Hid ((⟨p, q, r, s⟩ : La.Mat) ∉ l.take k) ∧ Hid (Has wr w.heap.size 40 [.int .i64 p, .int .i64 q, .int .i64 r, .int .i64 s]) ∧ Hid (Below w.heap.size w wr)) (fun i _ => n - (intOf i).toNat)
  case atStart => exact ⟨0, Nat.zero_le _, rfl, Lib.hid (by simp), G0, B⟩
  case round =>
    clear G0 B
    obtain ⟨k, hk, rfl, HN, G0, B⟩ := hrel
    obtain ⟨W1, rfl⟩ : ∃ W1 : World, W1 = wr := ⟨_, rfl⟩
    by_cases hlt : k < n
    · have jk : (k : Int) < (n : Int) := by omega
      have ik : IntKind.i64.wrap ((k : Int) + 1) = (k : Int) + 1 := IntWalk.i64_in _ (by omega)
      obtain ⟨x, hx⟩ := get_of_lt (l := l) (k := k) (by rw [HL.out]; exact hlt)
      have HX := Lib.hid hx
      obtain ⟨b, oo, rfl, hb, x0, x1, x2, x3⟩ := HR.out k x hx
      clear hx
      obtain ⟨xa, xb, xc, xd⟩ := x
      simp only at x0 x1 x2 x3
      have hq := fun W => eqM xa xb xc xd p q r s W
      have y0 : W1.cell? ⟨b, oo + k * 4, none⟩ = some (.int .i64 xa) := (B.out.cell (p := ⟨b, _, none⟩) hb).trans x0
      have y1 : W1.cell? ⟨b, oo + k * 4 + 1, none⟩ = some (.int .i64 xb) := (B.out.cell (p := ⟨b, _, none⟩) hb).trans x1
      have y2 : W1.cell? ⟨b, oo + k * 4 + 2, none⟩ = some (.int .i64 xc) := (B.out.cell (p := ⟨b, _, none⟩) hb).trans x2
      have y3 : W1.cell? ⟨b, oo + k * 4 + 3, none⟩ = some (.int .i64 xd) := (B.out.cell (p := ⟨b, _, none⟩) hb).trans x3
      clear x0 x1 x2 x3
      have z0 : W1.cell? ⟨w.heap.size, 0, none⟩ = some (.int .i64 p) := G0.out.cell 0
      have z1 : W1.cell? ⟨w.heap.size, 1, none⟩ = some (.int .i64 q) := G0.out.cell 1
      have z2 : W1.cell? ⟨w.heap.size, 2, none⟩ = some (.int .i64 r) := G0.out.cell 2
      have z3 : W1.cell? ⟨w.heap.size, 3, none⟩ = some (.int .i64 s) := G0.out.cell 3
      have hxc := fun (x : Ext W1) => x.cell
      have q0 : b < W1.heap.size := Nat.lt_of_lt_of_le hb B.out.size
      have q1 := G0.out.lt
      have HS := Lib.hid (sameM_iff xa xb xc xd p q r s)
      generalize sameM xa xb xc xd p q r s = E at *
      go_upto_region 4 with (fail)
      refine wp_region_ext (by kernel_rfl) (by kernel_rfl) ?_
      repeat (go_big_quiet_step (fail))
      refine wpQuiet_nil ?_
      intro w3 hw'
      have hb3 := ext_below hw'
      clear hw' hxc y0 y1 y2 y3 z0 z1 z2 z3
      replace G0 := Lib.hid (G0.out.below hb3 G0.out.lt)
      replace B := Lib.hid (bvia B.out hb3)
      clear hb3 q0 q1 hq
      cases E with
      | true =>
        go_wp2
        go_ret
        refine ⟨?_, B.out⟩
        have hm : (⟨p, q, r, s⟩ : La.Mat) ∈ l := by
          rw [← HS.out.1 (by first | exact rfl | trivial)]; exact List.mem_of_getElem? HX.out
        rw [decide_eq_true hm]; rfl
      | false =>
        go_wp2
        refine ⟨⟨k + 1, hlt, by rw [Int.natCast_add]; rfl, ?_, G0, B⟩, ?_⟩
        · show _ ∉ _
          rw [List.take_add_one, HX.out]
          intro h
          rcases List.mem_append.1 h with h | h
          · exact HN.out h
          · simp only [Option.toList_some, List.mem_singleton] at h
            exact absurd (HS.out.2 h.symm) (by decide)
        · first | (simp [intOf]; done) | (simp [intOf]; omega)
    · obtain rfl : k = n := by omega
      have jk : ¬ (k : Int) < (k : Int) := by omega
      go_wp2
      go_ret
      refine ⟨?_, B.out⟩
      have hm : (⟨p, q, r, s⟩ : La.Mat) ∉ l := by
        have := HN.out
        rwa [List.take_of_length_le (by rw [HL.out]; exact Nat.le_refl _)] at this
      rw [decide_eq_false hm]; rfl
set_option maxRecDepth 100000 in
set_option maxHeartbeats 2000000 in
theorem keepsNC (a b c p q r s : Int) (w : World) (h : okL a b c = true) (hm : okM p q r s = false) : Calls Try.prog 32 #[vL a b c, vM p q r s] w fun e w' => e = .returned (.tuple #[.bool false, .int .i64 2]) ∧ Below w.heap.size w w' := by
  have CC := Lib.hid (fun W => checkC a b c W)
  rw [show errL a b c = 0 from if_pos h] at CC
  have CM := Lib.hid (fun W => matrixC p q r s W)
  rw [hm] at CM
  clear h hm
  have G0 : Hid (Has (boxW w [([.int .i64 a, .int .i64 b, .int .i64 c], 23), ([.int .i64 p, .int .i64 q, .int .i64 r, .int .i64 s], 40)]) (w.heap.size) 23 [.int .i64 a, .int .i64 b, .int .i64 c]) := box_has [([.int .i64 a, .int .i64 b, .int .i64 c], 23), ([.int .i64 p, .int .i64 q, .int .i64 r, .int .i64 s], 40)] (w := w) (Below.refl _ _) (i := 0) rfl
  have G1 : Hid (Has (boxW w [([.int .i64 a, .int .i64 b, .int .i64 c], 23), ([.int .i64 p, .int .i64 q, .int .i64 r, .int .i64 s], 40)]) (w.heap.size + 1) 40 [.int .i64 p, .int .i64 q, .int .i64 r, .int .i64 s]) := box_has [([.int .i64 a, .int .i64 b, .int .i64 c], 23), ([.int .i64 p, .int .i64 q, .int .i64 r, .int .i64 s], 40)] (w := w) (Below.refl _ _) (i := 1) rfl
  have B := Lib.hid (boxW_below [([.int .i64 a, .int .i64 b, .int .i64 c], 23), ([.int .i64 p, .int .i64 q, .int .i64 r, .int .i64 s], 40)] w)
  obtain ⟨W1, hW1⟩ : ∃ W1, W1 = boxW w [([.int .i64 a, .int .i64 b, .int .i64 c], 23), ([.int .i64 p, .int .i64 q, .int .i64 r, .int .i64 s], 40)] := ⟨_, rfl⟩
  rw [← hW1] at G0 G1 B
  go_enter Try.func32, Try.ntmps32
  go_upto_region 1 with (fail)
  rw [show (w.alloc (.cells #[.int .i64 a, .int .i64 b, .int .i64 c] 23)).alloc (.cells #[.int .i64 p, .int .i64 q, .int .i64 r, .int .i64 s] 40) = W1 from hW1.symm]
  clear hW1
  have cG00 : W1.cell? ⟨w.heap.size, 0, none⟩ = some (.int .i64 a) := G0.out.cell 0
  have cG01 : W1.cell? ⟨w.heap.size, 1, none⟩ = some (.int .i64 b) := G0.out.cell 1
  have cG02 : W1.cell? ⟨w.heap.size, 2, none⟩ = some (.int .i64 c) := G0.out.cell 2
  go_wp2_with fail
  refine (CC.out _).mono ?_
  rintro e w1 ⟨rfl, hb1⟩
  clear cG00 cG01 cG02
  replace G0 := Lib.hid (G0.out.below hb1 G0.out.lt)
  replace G1 := Lib.hid (G1.out.below hb1 G1.out.lt)
  replace B := Lib.hid (bvia B.out hb1)
  clear hb1
  have cG10 : w1.cell? ⟨w.heap.size + 1, 0, none⟩ = some (.int .i64 p) := G1.out.cell 0
  have cG11 : w1.cell? ⟨w.heap.size + 1, 1, none⟩ = some (.int .i64 q) := G1.out.cell 1
  have cG12 : w1.cell? ⟨w.heap.size + 1, 2, none⟩ = some (.int .i64 r) := G1.out.cell 2
  have cG13 : w1.cell? ⟨w.heap.size + 1, 3, none⟩ = some (.int .i64 s) := G1.out.cell 3
  go_wp2_with fail
  refine (CM.out _).mono ?_
  rintro e w2 ⟨rfl, hb2⟩
  clear cG10 cG11 cG12 cG13
  replace G0 := Lib.hid (G0.out.below hb2 G0.out.lt)
  replace G1 := Lib.hid (G1.out.below hb2 G1.out.lt)
  replace B := Lib.hid (bvia B.out hb2)
  clear hb2
  go_wp2
  go_ret2
  exact ⟨rfl, B.out⟩
set_option maxRecDepth 100000 in
set_option maxHeartbeats 2000000 in
theorem keepsC (a b c p q r s : Int) (w : World) (h : okL a b c = true) (hm : okM p q r s = true) : Calls Try.prog 32 #[vL a b c, vM p q r s] w fun e w' => e = .returned (.tuple #[.bool (decide (La.lead ⟨a, b, c⟩ ⟨p, q, r, s⟩ = ⟨a, b, c⟩)), .int .i64 0]) ∧ Below w.heap.size w w' := by
  have CC := Lib.hid (fun W => checkC a b c W)
  rw [show errL a b c = 0 from if_pos h] at CC
  have CM := Lib.hid (fun W => matrixC p q r s W)
  rw [hm] at CM
  have hl := (okL_iff a b c).1 h
  obtain ⟨fa, fb, fc, fd⟩ := (okM_iff p q r s).1 hm
  have CL := Lib.hid (fun W => leadC a b c p q r s W ⟨by omega, by omega⟩ ⟨by omega, by omega⟩ ⟨by omega, by omega⟩ ⟨by omega, by omega⟩ ⟨by omega, by omega⟩ ⟨by omega, by omega⟩ ⟨by omega, by omega⟩)
  have HLe : Hid (La.lead ⟨a, b, c⟩ ⟨p, q, r, s⟩ = ⟨prodL a b c p r p r, prodL a b c p r q s, prodL a b c q s q s⟩) := lead_eq a b c p q r s
  clear h hm hl fa fb fc fd
  have G0 : Hid (Has (boxW w [([.int .i64 a, .int .i64 b, .int .i64 c], 23), ([.int .i64 p, .int .i64 q, .int .i64 r, .int .i64 s], 40)]) (w.heap.size) 23 [.int .i64 a, .int .i64 b, .int .i64 c]) := box_has [([.int .i64 a, .int .i64 b, .int .i64 c], 23), ([.int .i64 p, .int .i64 q, .int .i64 r, .int .i64 s], 40)] (w := w) (Below.refl _ _) (i := 0) rfl
  have G1 : Hid (Has (boxW w [([.int .i64 a, .int .i64 b, .int .i64 c], 23), ([.int .i64 p, .int .i64 q, .int .i64 r, .int .i64 s], 40)]) (w.heap.size + 1) 40 [.int .i64 p, .int .i64 q, .int .i64 r, .int .i64 s]) := box_has [([.int .i64 a, .int .i64 b, .int .i64 c], 23), ([.int .i64 p, .int .i64 q, .int .i64 r, .int .i64 s], 40)] (w := w) (Below.refl _ _) (i := 1) rfl
  have B := Lib.hid (boxW_below [([.int .i64 a, .int .i64 b, .int .i64 c], 23), ([.int .i64 p, .int .i64 q, .int .i64 r, .int .i64 s], 40)] w)
  obtain ⟨W1, hW1⟩ : ∃ W1, W1 = boxW w [([.int .i64 a, .int .i64 b, .int .i64 c], 23), ([.int .i64 p, .int .i64 q, .int .i64 r, .int .i64 s], 40)] := ⟨_, rfl⟩
  rw [← hW1] at G0 G1 B
  go_enter Try.func32, Try.ntmps32
  go_upto_region 1 with (fail)
  rw [show (w.alloc (.cells #[.int .i64 a, .int .i64 b, .int .i64 c] 23)).alloc (.cells #[.int .i64 p, .int .i64 q, .int .i64 r, .int .i64 s] 40) = W1 from hW1.symm]
  clear hW1
  have cG00 : W1.cell? ⟨w.heap.size, 0, none⟩ = some (.int .i64 a) := G0.out.cell 0
  have cG01 : W1.cell? ⟨w.heap.size, 1, none⟩ = some (.int .i64 b) := G0.out.cell 1
  have cG02 : W1.cell? ⟨w.heap.size, 2, none⟩ = some (.int .i64 c) := G0.out.cell 2
  go_wp2_with fail
  refine (CC.out _).mono ?_
  rintro e w1 ⟨rfl, hb1⟩
  clear cG00 cG01 cG02
  replace G0 := Lib.hid (G0.out.below hb1 G0.out.lt)
  replace G1 := Lib.hid (G1.out.below hb1 G1.out.lt)
  replace B := Lib.hid (bvia B.out hb1)
  clear hb1
  have cG10 : w1.cell? ⟨w.heap.size + 1, 0, none⟩ = some (.int .i64 p) := G1.out.cell 0
  have cG11 : w1.cell? ⟨w.heap.size + 1, 1, none⟩ = some (.int .i64 q) := G1.out.cell 1
  have cG12 : w1.cell? ⟨w.heap.size + 1, 2, none⟩ = some (.int .i64 r) := G1.out.cell 2
  have cG13 : w1.cell? ⟨w.heap.size + 1, 3, none⟩ = some (.int .i64 s) := G1.out.cell 3
  go_wp2_with fail
  refine (CM.out _).mono ?_
  rintro e w2 ⟨rfl, hb2⟩
  clear cG10 cG11 cG12 cG13
  replace G0 := Lib.hid (G0.out.below hb2 G0.out.lt)
  replace G1 := Lib.hid (G1.out.below hb2 G1.out.lt)
  replace B := Lib.hid (bvia B.out hb2)
  clear hb2
  have cG00 : w2.cell? ⟨w.heap.size, 0, none⟩ = some (.int .i64 a) := G0.out.cell 0
  have cG01 : w2.cell? ⟨w.heap.size, 1, none⟩ = some (.int .i64 b) := G0.out.cell 1
  have cG02 : w2.cell? ⟨w.heap.size, 2, none⟩ = some (.int .i64 c) := G0.out.cell 2
  have cG10 : w2.cell? ⟨w.heap.size + 1, 0, none⟩ = some (.int .i64 p) := G1.out.cell 0
  have cG11 : w2.cell? ⟨w.heap.size + 1, 1, none⟩ = some (.int .i64 q) := G1.out.cell 1
  have cG12 : w2.cell? ⟨w.heap.size + 1, 2, none⟩ = some (.int .i64 r) := G1.out.cell 2
  have cG13 : w2.cell? ⟨w.heap.size + 1, 3, none⟩ = some (.int .i64 s) := G1.out.cell 3
  generalize prodL a b c p r p r = X, prodL a b c p r q s = Y, prodL a b c q s q s = Z at *
  have hq := fun W => eqLat X Y Z a b c W
  have HS : Hid (sameL X Y Z a b c = decide (La.lead ⟨a, b, c⟩ ⟨p, q, r, s⟩ = ⟨a, b, c⟩)) := by
    show _ = _
    rw [HLe.out]
    cases h : sameL X Y Z a b c with
    | true => rw [decide_eq_true ((sameL_iff ..).1 h)]
    | false => rw [decide_eq_false (fun e => absurd ((sameL_iff ..).2 e) (by rw [h]; decide))]
  generalize sameL X Y Z a b c = E at *
  go_upto_region 3 with (fail)
  have qG0 : w.heap.size < w2.heap.size := G0.out.lt
  have qG1 : w.heap.size + 1 < w2.heap.size := G1.out.lt
  have hxc := fun (x : Ext w2) => x.cell
  refine wp_region_ext (by kernel_rfl) (by kernel_rfl) ?_
  repeat (go_big_quiet_step ((go_at_call 73; exact ext_call (CL.out _))))
  refine wpQuiet_nil ?_
  intro w3 hw'
  have hb3 := ext_below hw'
  clear hw'
  clear cG00 cG01 cG02 cG10 cG11 cG12 cG13 qG0 qG1 hxc
  replace G0 := Lib.hid (G0.out.below hb3 G0.out.lt)
  replace G1 := Lib.hid (G1.out.below hb3 G1.out.lt)
  replace B := Lib.hid (bvia B.out hb3)
  clear hb3
  go_wp2
  go_ret2
  exact ⟨by rw [← HS.out]; rfl, B.out⟩
end Go.Proofs.Ytmghpaibdgkbfaa
/-
  Plain law of the group: its members are the matrices that keep the lattice; it has 2, 4, 8 or 12 of them.
-/
namespace Go.Proofs.Ytmghpaibdgkbfaa
theorem cand_in : ∀ i, i < 81 → ((-1 ≤ (cand i).a ∧ (cand i).a ≤ 1) ∧ (-1 ≤ (cand i).b ∧ (cand i).b ≤ 1) ∧ (-1 ≤ (cand i).c ∧ (cand i).c ≤ 1) ∧ (-1 ≤ (cand i).d ∧ (cand i).d ≤ 1)) := by decide +kernel
def Alike (l l' : La.Lat) : Prop := ∀ p q r s : Int, (p = -1 ∨ p = 0 ∨ p = 1) → (q = -1 ∨ q = 0 ∨ q = 1) → (r = -1 ∨ r = 0 ∨ r = 1) → (s = -1 ∨ s = 0 ∨ s = 1) → (La.lead l ⟨p, q, r, s⟩ = l ↔ La.lead l' ⟨p, q, r, s⟩ = l')
theorem grp_alike {l l' : La.Lat} (h : Alike l l') : grp l 81 = grp l' 81 := by
  unfold grp
  refine List.filter_congr fun m hm => ?_
  obtain ⟨i, hi, rfl⟩ := List.mem_map.1 hm
  obtain ⟨h1, h2, h3, h4⟩ := cand_in i (List.mem_range.1 hi)
  have := h (cand i).a (cand i).b (cand i).c (cand i).d (by omega) (by omega) (by omega) (by omega)
  simp only [decide_eq_decide]
  exact this
theorem alikeA {a b c : Int} (ha : 1 ≤ a) (hb : b = 0) (hc : a < c) : Alike ⟨a, b, c⟩ ⟨1, 0, 2⟩ := by
  intro p q r s hp hq hr hs
  simp only [La.lead, La.prod, La.Lat.mk.injEq]
  rcases hp with rfl | rfl | rfl <;> rcases hq with rfl | rfl | rfl <;> rcases hr with rfl | rfl | rfl <;> rcases hs with rfl | rfl | rfl <;> omega
theorem alikeB {a b c : Int} (ha : 1 ≤ a) (hb : b = 0) (hc : a = c) : Alike ⟨a, b, c⟩ ⟨1, 0, 1⟩ := by
  intro p q r s hp hq hr hs
  simp only [La.lead, La.prod, La.Lat.mk.injEq]
  rcases hp with rfl | rfl | rfl <;> rcases hq with rfl | rfl | rfl <;> rcases hr with rfl | rfl | rfl <;> rcases hs with rfl | rfl | rfl <;> omega
theorem alikeC {a b c : Int} (ha : 1 ≤ a) (hb : 0 < b ∧ 2 * b < a) (hc : a < c) : Alike ⟨a, b, c⟩ ⟨3, 1, 4⟩ := by
  intro p q r s hp hq hr hs
  simp only [La.lead, La.prod, La.Lat.mk.injEq]
  rcases hp with rfl | rfl | rfl <;> rcases hq with rfl | rfl | rfl <;> rcases hr with rfl | rfl | rfl <;> rcases hs with rfl | rfl | rfl <;> omega
theorem alikeD {a b c : Int} (ha : 1 ≤ a) (hb : 0 < b ∧ 2 * b < a) (hc : a = c) : Alike ⟨a, b, c⟩ ⟨3, 1, 3⟩ := by
  intro p q r s hp hq hr hs
  simp only [La.lead, La.prod, La.Lat.mk.injEq]
  rcases hp with rfl | rfl | rfl <;> rcases hq with rfl | rfl | rfl <;> rcases hr with rfl | rfl | rfl <;> rcases hs with rfl | rfl | rfl <;> omega
theorem alikeE {a b c : Int} (ha : 1 ≤ a) (hb : 2 * b = a) (hc : a < c) : Alike ⟨a, b, c⟩ ⟨2, 1, 3⟩ := by
  intro p q r s hp hq hr hs
  simp only [La.lead, La.prod, La.Lat.mk.injEq]
  rcases hp with rfl | rfl | rfl <;> rcases hq with rfl | rfl | rfl <;> rcases hr with rfl | rfl | rfl <;> rcases hs with rfl | rfl | rfl <;> omega
theorem alikeF {a b c : Int} (ha : 1 ≤ a) (hb : 2 * b = a) (hc : a = c) : Alike ⟨a, b, c⟩ ⟨2, 1, 2⟩ := by
  intro p q r s hp hq hr hs
  simp only [La.lead, La.prod, La.Lat.mk.injEq]
  rcases hp with rfl | rfl | rfl <;> rcases hq with rfl | rfl | rfl <;> rcases hr with rfl | rfl | rfl <;> rcases hs with rfl | rfl | rfl <;> omega
theorem grp_count {l : La.Lat} (ha : 1 ≤ l.a) (h : La.Red l) : (grp l 81).length = 2 ∨ (grp l 81).length = 4 ∨ (grp l 81).length = 8 ∨ (grp l 81).length = 12 := by
  obtain ⟨a, b, c⟩ := l
  obtain ⟨h0, h1, h2⟩ := h
  simp only at ha h0 h1 h2
  rcases (show b = 0 ∨ (0 < b ∧ 2 * b < a) ∨ 2 * b = a by omega) with hb | hb | hb <;> rcases (show a < c ∨ a = c by omega) with hc | hc
  · rw [grp_alike (alikeA ha hb hc)]; decide +kernel
  · rw [grp_alike (alikeB ha hb hc)]; decide +kernel
  · rw [grp_alike (alikeC ha hb hc)]; decide +kernel
  · rw [grp_alike (alikeD ha hb hc)]; decide +kernel
  · rw [grp_alike (alikeE ha hb hc)]; decide +kernel
  · rw [grp_alike (alikeF ha hb hc)]; decide +kernel
theorem conj_mem {L l : La.Lat} {m : La.Mat} {ms : List La.Mat} (h : La.St L l m) (r : La.Red l) (hp : ms.Perm ((grp l 81).map (conj m))) (x : La.Mat) : x ∈ ms ↔ La.lead L x = L := by
  have hb := La.lead_inv h.u h.e
  rw [hp.mem_iff, List.mem_map]
  constructor
  · rintro ⟨y, hy, rfl⟩
    have hk := (grp_iff.1 hy).2
    unfold conj
    rw [La.lead_mul, La.lead_mul, h.e, hk, hb]
  · intro hx
    have e1 : La.lead l (La.mul (La.mul (La.inv m) x) m) = l := by rw [La.lead_mul, La.lead_mul, hb, hx, h.e]
    refine ⟨La.mul (La.mul (La.inv m) x) m, grp_iff.2 ⟨La.keep_small r h.v.a1 h.v.d1 e1, e1⟩, ?_⟩
    unfold conj
    rw [La.mul_assoc, La.mul_assoc (La.mul (La.inv m) x) m, La.mul_inv h.u, La.mul_one, ← La.mul_assoc, La.mul_inv h.u, La.one_mul]
structure KeepG (L : La.Lat) (x : La.Mat) : Prop where
  e : La.lead L x = L
  u : La.unit x
  a : In6 10000 x.a
  b : In6 10000 x.b
  c : In6 10000 x.c
  d : In6 10000 x.d
theorem keepG {L : La.Lat} (v : La.Val L) (ha : L.a ≤ 10000) (hc : L.c ≤ 10000) {x : La.Mat} (e : La.lead L x = L) : KeepG L x := by
  have u := La.lead_unit v.d1 e
  obtain ⟨⟨fa, fc⟩, ⟨fb, fd⟩⟩ := La.St.fit ⟨e, u, v, ha, hc⟩ v ha hc
  exact ⟨e, u, fa, fb, fc, fd⟩
theorem im_in {a b x y : Int} (ha : In6 10000 a) (hb : In6 10000 b) (hx : In6 10 x) (hy : In6 10 y) : -200000 ≤ a * x + b * y ∧ a * x + b * y ≤ 200000 := by
  have h1 := mb 10000 10 100000 ha hx (by decide)
  have h2 := mb 10000 10 100000 hb hy (by decide)
  omega
theorem apK {a b c d x y : Int} (ha : In6 10000 a) (hb : In6 10000 b) (hc : In6 10000 c) (hd : In6 10000 d) (hx : In6 10 x) (hy : In6 10 y) : apR a b c d 0 0 x y = (a * x + b * y, c * x + d * y, 0) := by
  have h1 := im_in ha hb hx hy
  have h2 := im_in hc hd hx hy
  unfold apR
  rw [if_pos ⟨(okV_iff ..).2 ⟨⟨ha, hb, hc, hd⟩, ⟨by decide, by decide⟩, ⟨by decide, by decide⟩⟩, (okP_iff ..).2 ⟨⟨by have := hx.1; omega, by have := hx.2; omega⟩, ⟨by have := hy.1; omega, by have := hy.2; omega⟩⟩⟩]
  unfold imX
  rw [Int.add_zero, Int.add_zero, if_pos ((okP_iff ..).2 ⟨⟨by omega, by omega⟩, ⟨by omega, by omega⟩⟩)]
theorem okPs_of {l : List (Int × Int)} (h : ∀ p ∈ l, okP p.1 p.2 = true) : okPs l = true := by
  unfold okPs
  first | exact List.all_eq_true.2 h | (rw [List.all_eq_true]; exact fun p hp => h p hp)
theorem dotK {a b c px py qx qy : Int} (hl : okL a b c = true) (h1 : okP px py = true) (h2 : okP qx qy = true) : dotR a b c px py qx qy qx qy = (La.prod ⟨a, b, c⟩ (qx - px) (qy - py) (qx - px) (qy - py), 0) := by
  unfold dotR
  rw [if_pos ⟨hl, okPs_of (by intro p hp; simp only [List.mem_cons, List.not_mem_nil, or_false] at hp; rcases hp with rfl | rfl | rfl <;> assumption)⟩, prodL_la]
theorem sideK {px py qx qy rx ry : Int} (h1 : okP px py = true) (h2 : okP qx qy = true) (h3 : okP rx ry = true) : sideR px py qx qy rx ry = (sgn ((qx - px) * (ry - py) - (qy - py) * (rx - px)), 0) := by
  unfold sideR
  rw [if_pos (okPs_of (by intro p hp; simp only [List.mem_cons, List.not_mem_nil, or_false] at hp; rcases hp with rfl | rfl | rfl <;> assumption))]
theorem okP_small {x y : Int} (hx : -200000 ≤ x ∧ x ≤ 200000) (hy : -200000 ≤ y ∧ y ≤ 200000) : okP x y = true := (okP_iff ..).2 ⟨⟨by omega, by omega⟩, ⟨by omega, by omega⟩⟩
theorem sgn_unit {D z : Int} (h : D = 1 ∨ D = -1) : sgn (D * z) = D * sgn z := by
  unfold sgn
  rcases h with rfl | rfl
  · rw [Int.one_mul, Int.one_mul]
  · rcases Int.lt_trichotomy z 0 with h | h | h
    · rw [if_neg (by omega), if_pos (by omega), if_pos h]; rfl
    · subst h; rfl
    · rw [if_pos (by omega), if_neg (by omega), if_pos h]; rfl
theorem sq_keep {L : La.Lat} {g : La.Mat} (h : La.lead L g = L) (px py qx qy : Int) : La.prod L ((g.a * qx + g.b * qy) - (g.a * px + g.b * py)) ((g.c * qx + g.d * qy) - (g.c * px + g.d * py)) ((g.a * qx + g.b * qy) - (g.a * px + g.b * py)) ((g.c * qx + g.d * qy) - (g.c * px + g.d * py)) = La.prod L (qx - px) (qy - py) (qx - px) (qy - py) := by
  have e := La.prod_lead L g (qx - px) (qy - py) (qx - px) (qy - py)
  rw [h] at e
  rw [e]
  have e1 : (g.a * qx + g.b * qy) - (g.a * px + g.b * py) = g.a * (qx - px) + g.b * (qy - py) := by grind
  have e2 : (g.c * qx + g.d * qy) - (g.c * px + g.d * py) = g.c * (qx - px) + g.d * (qy - py) := by grind
  rw [e1, e2]
theorem side_keep (g : La.Mat) (px py qx qy rx ry : Int) : ((g.a * qx + g.b * qy) - (g.a * px + g.b * py)) * ((g.c * rx + g.d * ry) - (g.c * px + g.d * py)) - ((g.c * qx + g.d * qy) - (g.c * px + g.d * py)) * ((g.a * rx + g.b * ry) - (g.a * px + g.b * py)) = La.det g * ((qx - px) * (ry - py) - (qy - py) * (rx - px)) := by
  unfold La.det; grind
theorem invK {a b c d : Int} (ha : In6 10000 a) (hb : In6 10000 b) (hc : In6 10000 c) (hd : In6 10000 d) (hu : a * d - b * c = 1 ∨ a * d - b * c = -1) : invR a b c d 0 0 = (vV ((a * d - b * c) * d) (-(a * d - b * c) * b) (-(a * d - b * c) * c) ((a * d - b * c) * a) 0 0, 0) := by
  unfold invR
  have e : invQ a b c d 0 0 = ((a * d - b * c) * d, -(a * d - b * c) * b, -(a * d - b * c) * c, (a * d - b * c) * a, 0, 0) := by unfold invQ; simp
  rw [if_pos ((okV_iff ..).2 ⟨⟨ha, hb, hc, hd⟩, ⟨by decide, by decide⟩, ⟨by decide, by decide⟩⟩), if_pos hu, e]
  have h1 := unit_bnd hu ha
  have h2 := unit_bnd hu hb
  have h3 := unit_bnd hu hc
  have h4 := unit_bnd hu hd
  rw [if_pos (show okV6 _ = true from (okV_iff ..).2 ⟨⟨h4.1, h2.2, h3.2, h1.1⟩, (by decide : In6 1000000 0), (by decide : In6 1000000 0)⟩)]
  rfl
end Go.Proofs.Ytmghpaibdgkbfaa
