/-
  Contracts of chapter 6: the document's Keeps, the law's same.
-/
import Derived.Test.YtmghpaibdgkbfaaVB4
import Derived.Test.YtmghpaibdgkbfaaVB12
import Derived.Test.YtmghpaibdgkbfaaVB13
import Derived.Deep.CutRange
import Derived.Deep.RegionHeld3
namespace Go.Proofs.Ytmghpaibdgkbfaa
open Go.RowKit
set_option maxRecDepth 100000 in
set_option maxHeartbeats 4000000 in
theorem sameC (A A' : Option Addr) (n cp cp' : Nat) (l : List La.Mat) (w : World) (hr : RdM4 w w.heap.size A l) (hr' : RdM4 w w.heap.size A' l) (hl : l.length = n) (hn : n ≤ 1000) :
    Calls Try.prog 34 #[.slice A n cp, .slice A' n cp'] w fun e w' => e = .returned (.bool true) ∧ Below w.heap.size w w' := by
  have HR := Lib.hid hr
  have HR2 := Lib.hid hr'
  have HL := Lib.hid hl
  have B := Lib.hid (Below.refl w.heap.size w)
  clear hr hr' hl
  go_enter Try.func34, Try.ntmps34
  go_wp2
  go_loopw [5] (fun i wr => ∃ k : Nat, k ≤ n ∧ i = .int .i64 (k : Int) ∧ Hid (Below w.heap.size w wr)) (fun i _ => n - (intOf i).toNat)
  case atStart => exact ⟨0, Nat.zero_le _, rfl, B⟩
  case round =>
    clear B
    obtain ⟨k, hk, rfl, B⟩ := hrel
    obtain ⟨wo, rfl⟩ : ∃ wo : World, wo = wr := ⟨_, rfl⟩
    by_cases hlt : k < n
    · have jk : (k : Int) < (n : Int) := by omega
      have ik : IntKind.i64.wrap ((k : Int) + 1) = (k : Int) + 1 := IntWalk.i64_in _ (by omega)
      obtain ⟨x, hx⟩ := get_of_lt (l := l) (k := k) (by rw [HL.out]; exact hlt)
      obtain ⟨b, oo, rfl, hb, x0, x1, x2, x3⟩ := HR.out k x hx
      obtain ⟨b', oo', rfl, hb', x0', x1', x2', x3'⟩ := HR2.out k x hx
      clear hx
      obtain ⟨xa, xb, xc, xd⟩ := x
      simp only at x0 x1 x2 x3 x0' x1' x2' x3'
      have hq : ∀ W, (Op.equalIn 10000 40 (vM xa xb xc xd) (vM xa xb xc xd)).run Try.prog W = .ok true W := fun W => by have := eqM xa xb xc xd xa xb xc xd W; rw [(sameM_iff ..).2 rfl] at this; exact this
      have y0 : wo.cell? ⟨b, oo + k * 4, none⟩ = some (.int .i64 xa) := (B.out.cell (p := ⟨b, _, none⟩) hb).trans x0
      have y1 : wo.cell? ⟨b, oo + k * 4 + 1, none⟩ = some (.int .i64 xb) := (B.out.cell (p := ⟨b, _, none⟩) hb).trans x1
      have y2 : wo.cell? ⟨b, oo + k * 4 + 2, none⟩ = some (.int .i64 xc) := (B.out.cell (p := ⟨b, _, none⟩) hb).trans x2
      have y3 : wo.cell? ⟨b, oo + k * 4 + 3, none⟩ = some (.int .i64 xd) := (B.out.cell (p := ⟨b, _, none⟩) hb).trans x3
      have z0 : wo.cell? ⟨b', oo' + k * 4, none⟩ = some (.int .i64 xa) := (B.out.cell (p := ⟨b', _, none⟩) hb').trans x0'
      have z1 : wo.cell? ⟨b', oo' + k * 4 + 1, none⟩ = some (.int .i64 xb) := (B.out.cell (p := ⟨b', _, none⟩) hb').trans x1'
      have z2 : wo.cell? ⟨b', oo' + k * 4 + 2, none⟩ = some (.int .i64 xc) := (B.out.cell (p := ⟨b', _, none⟩) hb').trans x2'
      have z3 : wo.cell? ⟨b', oo' + k * 4 + 3, none⟩ = some (.int .i64 xd) := (B.out.cell (p := ⟨b', _, none⟩) hb').trans x3'
      clear x0 x1 x2 x3 x0' x1' x2' x3'
      have hxc := fun (x : Ext wo) => x.cell
      have q0 : b < wo.heap.size := Nat.lt_of_lt_of_le hb B.out.size
      have q1 : b' < wo.heap.size := Nat.lt_of_lt_of_le hb' B.out.size
      go_upto_region 6 with (fail)
      refine wp_region_ext (by kernel_rfl) (by kernel_rfl) ?_
      repeat (go_big_quiet_step (fail))
      refine wpQuiet_nil ?_
      intro w3 hw'
      have hb3 := ext_below hw'
      clear hw' hxc y0 y1 y2 y3 z0 z1 z2 z3
      replace B := Lib.hid (bvia B.out hb3)
      clear hb3 q0 q1 hq
      go_wp2
      refine ⟨⟨k + 1, hlt, by rw [Int.natCast_add]; rfl, B⟩, ?_⟩
      first | (simp [intOf]; done) | (simp [intOf]; omega)
    · obtain rfl : k = n := by omega
      have jk : ¬ (k : Int) < (k : Int) := by omega
      go_wp2
      go_ret
      exact ⟨rfl, B.out⟩
set_option maxRecDepth 100000 in
set_option maxHeartbeats 4000000 in
theorem rkeepC (a b c p q r s : Int) (w : World) (ha : In6 10000 a) (hb : In6 10000 b) (hc : In6 10000 c) (fa : In6 10000 p) (fb : In6 10000 q) (fc : In6 10000 r) (fd : In6 10000 s) :
    Calls Try.prog 74 #[vL a b c, vM p q r s] w fun e w' => e = .returned (.bool (decide (La.lead ⟨a, b, c⟩ ⟨p, q, r, s⟩ = ⟨a, b, c⟩))) ∧ Below w.heap.size w w' := by
  have CI1 : Hid (∀ W : World, Calls Try.prog 82 #[vM p q r s, vP 1 0] W fun e w' => e = .returned (vP p r) ∧ Below W.heap.size W w') := fun W => by have := rimageC p q r s 1 0 10000 1 W fa fb fc fd ⟨by decide, by decide⟩ ⟨by decide, by decide⟩ (by decide); rw [show p * 1 + q * 0 = p by omega, show r * 1 + s * 0 = r by omega] at this; exact this
  have CI2 : Hid (∀ W : World, Calls Try.prog 82 #[vM p q r s, vP 0 1] W fun e w' => e = .returned (vP q s) ∧ Below W.heap.size W w') := fun W => by have := rimageC p q r s 0 1 10000 1 W fa fb fc fd ⟨by decide, by decide⟩ ⟨by decide, by decide⟩ (by decide); rw [show p * 0 + q * 1 = q by omega, show r * 0 + s * 1 = s by omega] at this; exact this
  have CP := Lib.hid (fun W x y u v (hx : In6 10000 x) (hy : In6 10000 y) (hu : In6 10000 u) (hv : In6 10000 v) => rproductC a b c x y u v W ha hb hc ⟨by omega, by omega⟩ ⟨by omega, by omega⟩ ⟨by omega, by omega⟩ ⟨by omega, by omega⟩)
  have C1 := Lib.hid (fun W => CP.out W p r p r fa fc fa fc)
  have C2 := Lib.hid (fun W => CP.out W p r q s fa fc fb fd)
  have C3 := Lib.hid (fun W => CP.out W q s q s fb fd fb fd)
  have HLe : (La.lead ⟨a, b, c⟩ ⟨p, q, r, s⟩ = ⟨prodL a b c p r p r, prodL a b c p r q s, prodL a b c q s q s⟩) := lead_eq a b c p q r s
  rw [HLe]
  clear HLe CP ha hb hc fa fb fc fd
  generalize prodL a b c p r p r = X, prodL a b c p r q s = Y, prodL a b c q s q s = Z at *
  obtain ⟨D, hD⟩ : ∃ D, D = decide ((⟨X, Y, Z⟩ : La.Lat) = ⟨a, b, c⟩) := ⟨_, rfl⟩
  rw [← hD]
  have HD := Lib.hid hD
  clear hD
  have G0 : Hid (Has (boxW w [([.int .i64 a, .int .i64 b, .int .i64 c], 23), ([.int .i64 p, .int .i64 q, .int .i64 r, .int .i64 s], 40)]) (w.heap.size) 23 [.int .i64 a, .int .i64 b, .int .i64 c]) := box_has [([.int .i64 a, .int .i64 b, .int .i64 c], 23), ([.int .i64 p, .int .i64 q, .int .i64 r, .int .i64 s], 40)] (w := w) (Below.refl _ _) (i := 0) rfl
  have G1 : Hid (Has (boxW w [([.int .i64 a, .int .i64 b, .int .i64 c], 23), ([.int .i64 p, .int .i64 q, .int .i64 r, .int .i64 s], 40)]) (w.heap.size + 1) 40 [.int .i64 p, .int .i64 q, .int .i64 r, .int .i64 s]) := box_has [([.int .i64 a, .int .i64 b, .int .i64 c], 23), ([.int .i64 p, .int .i64 q, .int .i64 r, .int .i64 s], 40)] (w := w) (Below.refl _ _) (i := 1) rfl
  have B := Lib.hid (boxW_below [([.int .i64 a, .int .i64 b, .int .i64 c], 23), ([.int .i64 p, .int .i64 q, .int .i64 r, .int .i64 s], 40)] w)
  obtain ⟨W1, hW1⟩ : ∃ W1, W1 = boxW w [([.int .i64 a, .int .i64 b, .int .i64 c], 23), ([.int .i64 p, .int .i64 q, .int .i64 r, .int .i64 s], 40)] := ⟨_, rfl⟩
  rw [← hW1] at G0 G1 B
  go_enter Try.func74, Try.ntmps74
  go_upto_region 1 with (fail)
  rw [show (w.alloc (.cells #[.int .i64 a, .int .i64 b, .int .i64 c] 23)).alloc (.cells #[.int .i64 p, .int .i64 q, .int .i64 r, .int .i64 s] 40) = W1 from hW1.symm]
  clear hW1
  go_upto_region 1 with (fail)
  refine wp_region_news [.q, .q, .q, .q, .q, .q, .mk 0, .mk 1, .st 0, .st 1] [⟨5, 9, none, 25, [.int .i64 0, .int .i64 0], [.int .i64 p, .int .i64 r], .agg #[.int .i64 p, .int .i64 r]⟩, ⟨6, 12, none, 25, [.int .i64 0, .int .i64 0], [.int .i64 q, .int .i64 s], .agg #[.int .i64 q, .int .i64 s]⟩] ?aHA (by kernel_rfl) (by kernel_rfl) (by simp) (by simp) ?hqA ?hvA ?hAA ?heA
  case hqA =>
    intro w5 h5
    have gG1 := G1.out.below h5 G1.out.lt
    have cG10 : w5.cell? ⟨w.heap.size + 1, 0, none⟩ = some (.int .i64 p) := gG1.cell 0
    have cG11 : w5.cell? ⟨w.heap.size + 1, 1, none⟩ = some (.int .i64 q) := gG1.cell 1
    have cG12 : w5.cell? ⟨w.heap.size + 1, 2, none⟩ = some (.int .i64 r) := gG1.cell 2
    have cG13 : w5.cell? ⟨w.heap.size + 1, 3, none⟩ = some (.int .i64 s) := gG1.cell 3
    have qG1 : w.heap.size + 1 < w5.heap.size := gG1.lt
    have hxc := fun (x : Ext w5) => x.cell
    clear gG1
    show wpQuiet _ _ _ _ [_, _, _, _, _, _] _
    go_big_quiet_step (fail)
    go_big_quiet_step (fail)
    go_big_quiet_step ((go_at_call 82; exact ext_call (CI1.out _)))
    go_big_quiet_step (fail)
    go_big_quiet_step (fail)
    go_big_quiet_step ((go_at_call 82; exact ext_call (CI2.out _)))
    refine wpQuiet_nil ?_
    rfl
  case hvA => simp
  case hAA =>
    refine ⟨fun x hx => ?_, fun x hx => ?_, fun x hx => ?_, fun x hx => ?_, trivial⟩ <;> (obtain rfl := Option.some.inj hx)
    · exact fun b W => by go_simp
    · exact fun b W => by go_simp
    · exact stOk_agg rfl rfl (by kernel_rfl) rfl (by kernel_rfl)
    · exact stOk_agg rfl rfl (by kernel_rfl) rfl (by kernel_rfl)
  case heA =>
    intro bs w1 hb1 hH _
    have HP0 := (hH 0 _ rfl).1
    have HP1 := (hH 1 _ rfl).1
    obtain ⟨KGP, hKGP⟩ : ∃ K, K = bs 0 := ⟨_, rfl⟩
    obtain ⟨KGQ, hKGQ⟩ : ∃ K, K = bs 1 := ⟨_, rfl⟩
    clear hH
    simp only [putN, Nat.zero_add, ← hKGP, ← hKGQ, Act.put, List.setIfInBounds_toArray, List.set_cons_zero, List.set_cons_succ] at HP0 HP1 ⊢
    clear hKGP hKGQ
    replace G0 := Lib.hid (G0.out.below hb1 G0.out.lt)
    replace G1 := Lib.hid (G1.out.below hb1 G1.out.lt)
    replace B := Lib.hid (bvia B.out hb1)
    clear hb1
    have GP : Hid (Has w1 KGP 25 [.int .i64 p, .int .i64 r]) := HP0
    have GQ : Hid (Has w1 KGQ 25 [.int .i64 q, .int .i64 s]) := HP1
    clear HP0 HP1
    clear CI1 CI2
    go_upto_region 2 with (fail)
    by_cases h1 : X = a
    · have k1 : (X == a) = true := beq_iff_eq.2 h1
      by_cases h2 : Y = b
      · have k2 : (Y == b) = true := beq_iff_eq.2 h2
        by_cases h3 : Z = c
        · have k3 : (Z == c) = true := beq_iff_eq.2 h3
          have HD2 : Hid (D = true) := HD.out.trans (decide_eq_true (by rw [h1, h2, h3]))
          clear h1 h2 h3 HD
          have cG00 : w1.cell? ⟨w.heap.size, 0, none⟩ = some (.int .i64 a) := G0.out.cell 0
          have cG01 : w1.cell? ⟨w.heap.size, 1, none⟩ = some (.int .i64 b) := G0.out.cell 1
          have cG02 : w1.cell? ⟨w.heap.size, 2, none⟩ = some (.int .i64 c) := G0.out.cell 2
          have cGP0 : w1.cell? ⟨KGP, 0, none⟩ = some (.int .i64 p) := GP.out.cell 0
          have cGP1 : w1.cell? ⟨KGP, 1, none⟩ = some (.int .i64 r) := GP.out.cell 1
          have cGQ0 : w1.cell? ⟨KGQ, 0, none⟩ = some (.int .i64 q) := GQ.out.cell 0
          have cGQ1 : w1.cell? ⟨KGQ, 1, none⟩ = some (.int .i64 s) := GQ.out.cell 1
          have qG0 : w.heap.size < w1.heap.size := G0.out.lt
          have qG1 : w.heap.size + 1 < w1.heap.size := G1.out.lt
          have qGP : KGP < w1.heap.size := GP.out.lt
          have qGQ : KGQ < w1.heap.size := GQ.out.lt
          have hxc := fun (x : Ext w1) => x.cell
          refine wp_region_ext (by kernel_rfl) (by kernel_rfl) ?_
          repeat (go_big_quiet_step (first | (go_at_call 47; with_reducible exact ext_call (C1.out _)) | (go_at_call 47; with_reducible exact ext_call (C2.out _)) | (go_at_call 47; with_reducible exact ext_call (C3.out _))))
          refine wpQuiet_nil ?_
          intro w2 hw'
          have hb2 := ext_below hw'
          clear hw'
          clear cG00 cG01 cG02 cGP0 cGP1 cGQ0 cGQ1 qG0 qG1 qGP qGQ hxc
          replace G0 := Lib.hid (G0.out.below hb2 G0.out.lt)
          replace G1 := Lib.hid (G1.out.below hb2 G1.out.lt)
          replace GP := Lib.hid (GP.out.below hb2 GP.out.lt)
          replace GQ := Lib.hid (GQ.out.below hb2 GQ.out.lt)
          replace B := Lib.hid (bvia B.out hb2)
          clear hb2
          go_wp2
          go_ret
          exact ⟨by rw [HD2.out]; rfl, B.out⟩
        · have k3 : (Z == c) = false := beq_eq_false_iff_ne.2 h3
          have HD2 : Hid (D = false) := HD.out.trans (decide_eq_false (fun h => h3 (congrArg La.Lat.c h)))
          clear h1 h2 h3 HD
          have cG00 : w1.cell? ⟨w.heap.size, 0, none⟩ = some (.int .i64 a) := G0.out.cell 0
          have cG01 : w1.cell? ⟨w.heap.size, 1, none⟩ = some (.int .i64 b) := G0.out.cell 1
          have cG02 : w1.cell? ⟨w.heap.size, 2, none⟩ = some (.int .i64 c) := G0.out.cell 2
          have cGP0 : w1.cell? ⟨KGP, 0, none⟩ = some (.int .i64 p) := GP.out.cell 0
          have cGP1 : w1.cell? ⟨KGP, 1, none⟩ = some (.int .i64 r) := GP.out.cell 1
          have cGQ0 : w1.cell? ⟨KGQ, 0, none⟩ = some (.int .i64 q) := GQ.out.cell 0
          have cGQ1 : w1.cell? ⟨KGQ, 1, none⟩ = some (.int .i64 s) := GQ.out.cell 1
          have qG0 : w.heap.size < w1.heap.size := G0.out.lt
          have qG1 : w.heap.size + 1 < w1.heap.size := G1.out.lt
          have qGP : KGP < w1.heap.size := GP.out.lt
          have qGQ : KGQ < w1.heap.size := GQ.out.lt
          have hxc := fun (x : Ext w1) => x.cell
          refine wp_region_ext (by kernel_rfl) (by kernel_rfl) ?_
          repeat (go_big_quiet_step (first | (go_at_call 47; with_reducible exact ext_call (C1.out _)) | (go_at_call 47; with_reducible exact ext_call (C2.out _)) | (go_at_call 47; with_reducible exact ext_call (C3.out _))))
          refine wpQuiet_nil ?_
          intro w2 hw'
          have hb2 := ext_below hw'
          clear hw'
          clear cG00 cG01 cG02 cGP0 cGP1 cGQ0 cGQ1 qG0 qG1 qGP qGQ hxc
          replace G0 := Lib.hid (G0.out.below hb2 G0.out.lt)
          replace G1 := Lib.hid (G1.out.below hb2 G1.out.lt)
          replace GP := Lib.hid (GP.out.below hb2 GP.out.lt)
          replace GQ := Lib.hid (GQ.out.below hb2 GQ.out.lt)
          replace B := Lib.hid (bvia B.out hb2)
          clear hb2
          go_wp2
          go_ret
          exact ⟨by rw [HD2.out]; rfl, B.out⟩
      · have k2 : (Y == b) = false := beq_eq_false_iff_ne.2 h2
        have HD2 : Hid (D = false) := HD.out.trans (decide_eq_false (fun h => h2 (congrArg La.Lat.b h)))
        clear h1 h2 HD
        have cG00 : w1.cell? ⟨w.heap.size, 0, none⟩ = some (.int .i64 a) := G0.out.cell 0
        have cG01 : w1.cell? ⟨w.heap.size, 1, none⟩ = some (.int .i64 b) := G0.out.cell 1
        have cG02 : w1.cell? ⟨w.heap.size, 2, none⟩ = some (.int .i64 c) := G0.out.cell 2
        have cGP0 : w1.cell? ⟨KGP, 0, none⟩ = some (.int .i64 p) := GP.out.cell 0
        have cGP1 : w1.cell? ⟨KGP, 1, none⟩ = some (.int .i64 r) := GP.out.cell 1
        have cGQ0 : w1.cell? ⟨KGQ, 0, none⟩ = some (.int .i64 q) := GQ.out.cell 0
        have cGQ1 : w1.cell? ⟨KGQ, 1, none⟩ = some (.int .i64 s) := GQ.out.cell 1
        have qG0 : w.heap.size < w1.heap.size := G0.out.lt
        have qG1 : w.heap.size + 1 < w1.heap.size := G1.out.lt
        have qGP : KGP < w1.heap.size := GP.out.lt
        have qGQ : KGQ < w1.heap.size := GQ.out.lt
        have hxc := fun (x : Ext w1) => x.cell
        refine wp_region_ext (by kernel_rfl) (by kernel_rfl) ?_
        repeat (go_big_quiet_step (first | (go_at_call 47; with_reducible exact ext_call (C1.out _)) | (go_at_call 47; with_reducible exact ext_call (C2.out _)) | (go_at_call 47; with_reducible exact ext_call (C3.out _))))
        refine wpQuiet_nil ?_
        intro w2 hw'
        have hb2 := ext_below hw'
        clear hw'
        clear cG00 cG01 cG02 cGP0 cGP1 cGQ0 cGQ1 qG0 qG1 qGP qGQ hxc
        replace G0 := Lib.hid (G0.out.below hb2 G0.out.lt)
        replace G1 := Lib.hid (G1.out.below hb2 G1.out.lt)
        replace GP := Lib.hid (GP.out.below hb2 GP.out.lt)
        replace GQ := Lib.hid (GQ.out.below hb2 GQ.out.lt)
        replace B := Lib.hid (bvia B.out hb2)
        clear hb2
        go_wp2
        go_ret
        exact ⟨by rw [HD2.out]; rfl, B.out⟩
    · have k1 : (X == a) = false := beq_eq_false_iff_ne.2 h1
      have HD2 : Hid (D = false) := HD.out.trans (decide_eq_false (fun h => h1 (congrArg La.Lat.a h)))
      clear h1 HD
      have cG00 : w1.cell? ⟨w.heap.size, 0, none⟩ = some (.int .i64 a) := G0.out.cell 0
      have cG01 : w1.cell? ⟨w.heap.size, 1, none⟩ = some (.int .i64 b) := G0.out.cell 1
      have cG02 : w1.cell? ⟨w.heap.size, 2, none⟩ = some (.int .i64 c) := G0.out.cell 2
      have cGP0 : w1.cell? ⟨KGP, 0, none⟩ = some (.int .i64 p) := GP.out.cell 0
      have cGP1 : w1.cell? ⟨KGP, 1, none⟩ = some (.int .i64 r) := GP.out.cell 1
      have cGQ0 : w1.cell? ⟨KGQ, 0, none⟩ = some (.int .i64 q) := GQ.out.cell 0
      have cGQ1 : w1.cell? ⟨KGQ, 1, none⟩ = some (.int .i64 s) := GQ.out.cell 1
      have qG0 : w.heap.size < w1.heap.size := G0.out.lt
      have qG1 : w.heap.size + 1 < w1.heap.size := G1.out.lt
      have qGP : KGP < w1.heap.size := GP.out.lt
      have qGQ : KGQ < w1.heap.size := GQ.out.lt
      have hxc := fun (x : Ext w1) => x.cell
      refine wp_region_ext (by kernel_rfl) (by kernel_rfl) ?_
      repeat (go_big_quiet_step (first | (go_at_call 47; with_reducible exact ext_call (C1.out _)) | (go_at_call 47; with_reducible exact ext_call (C2.out _)) | (go_at_call 47; with_reducible exact ext_call (C3.out _))))
      refine wpQuiet_nil ?_
      intro w2 hw'
      have hb2 := ext_below hw'
      clear hw'
      clear cG00 cG01 cG02 cGP0 cGP1 cGQ0 cGQ1 qG0 qG1 qGP qGQ hxc
      replace G0 := Lib.hid (G0.out.below hb2 G0.out.lt)
      replace G1 := Lib.hid (G1.out.below hb2 G1.out.lt)
      replace GP := Lib.hid (GP.out.below hb2 GP.out.lt)
      replace GQ := Lib.hid (GQ.out.below hb2 GQ.out.lt)
      replace B := Lib.hid (bvia B.out hb2)
      clear hb2
      go_wp2
      go_ret
      exact ⟨by rw [HD2.out]; rfl, B.out⟩
set_option maxRecDepth 100000 in
set_option maxHeartbeats 2000000 in
theorem rkeepsNC (a b c p q r s : Int) (w : World) (h : okL a b c = true) (hm : okM p q r s = false) : Calls Try.prog 33 #[vL a b c, vM p q r s] w fun e w' => e = .returned (.tuple #[.bool false, .int .i64 2]) ∧ Below w.heap.size w w' := by
  have CC := Lib.hid (fun W => rcheckC a b c W)
  rw [show errL a b c = 0 from if_pos h] at CC
  have CM := Lib.hid (fun W => rmatrixC p q r s W)
  rw [hm] at CM
  clear h hm
  have G0 : Hid (Has (boxW w [([.int .i64 a, .int .i64 b, .int .i64 c], 23), ([.int .i64 p, .int .i64 q, .int .i64 r, .int .i64 s], 40)]) (w.heap.size) 23 [.int .i64 a, .int .i64 b, .int .i64 c]) := box_has [([.int .i64 a, .int .i64 b, .int .i64 c], 23), ([.int .i64 p, .int .i64 q, .int .i64 r, .int .i64 s], 40)] (w := w) (Below.refl _ _) (i := 0) rfl
  have G1 : Hid (Has (boxW w [([.int .i64 a, .int .i64 b, .int .i64 c], 23), ([.int .i64 p, .int .i64 q, .int .i64 r, .int .i64 s], 40)]) (w.heap.size + 1) 40 [.int .i64 p, .int .i64 q, .int .i64 r, .int .i64 s]) := box_has [([.int .i64 a, .int .i64 b, .int .i64 c], 23), ([.int .i64 p, .int .i64 q, .int .i64 r, .int .i64 s], 40)] (w := w) (Below.refl _ _) (i := 1) rfl
  have B := Lib.hid (boxW_below [([.int .i64 a, .int .i64 b, .int .i64 c], 23), ([.int .i64 p, .int .i64 q, .int .i64 r, .int .i64 s], 40)] w)
  obtain ⟨W1, hW1⟩ : ∃ W1, W1 = boxW w [([.int .i64 a, .int .i64 b, .int .i64 c], 23), ([.int .i64 p, .int .i64 q, .int .i64 r, .int .i64 s], 40)] := ⟨_, rfl⟩
  rw [← hW1] at G0 G1 B
  go_enter Try.func33, Try.ntmps33
  go_upto_region 1 with (fail)
  rw [show (w.alloc (.cells #[.int .i64 a, .int .i64 b, .int .i64 c] 23)).alloc (.cells #[.int .i64 p, .int .i64 q, .int .i64 r, .int .i64 s] 40) = W1 from hW1.symm]
  clear hW1
  have cG00 : W1.cell? ⟨w.heap.size, 0, none⟩ = some (.int .i64 a) := G0.out.cell 0
  have cG01 : W1.cell? ⟨w.heap.size, 1, none⟩ = some (.int .i64 b) := G0.out.cell 1
  have cG02 : W1.cell? ⟨w.heap.size, 2, none⟩ = some (.int .i64 c) := G0.out.cell 2
  go_wp2_with fail
  refine (CC.out _).mono ?_
  rintro e w1 ⟨rfl, hb1⟩
  clear cG00 cG01 cG02
  replace G0 := Lib.hid (G0.out.below hb1 G0.out.lt)
  replace G1 := Lib.hid (G1.out.below hb1 G1.out.lt)
  replace B := Lib.hid (bvia B.out hb1)
  clear hb1
  have cG10 : w1.cell? ⟨w.heap.size + 1, 0, none⟩ = some (.int .i64 p) := G1.out.cell 0
  have cG11 : w1.cell? ⟨w.heap.size + 1, 1, none⟩ = some (.int .i64 q) := G1.out.cell 1
  have cG12 : w1.cell? ⟨w.heap.size + 1, 2, none⟩ = some (.int .i64 r) := G1.out.cell 2
  have cG13 : w1.cell? ⟨w.heap.size + 1, 3, none⟩ = some (.int .i64 s) := G1.out.cell 3
  go_wp2_with fail
  refine (CM.out _).mono ?_
  rintro e w2 ⟨rfl, hb2⟩
  clear cG10 cG11 cG12 cG13
  replace G0 := Lib.hid (G0.out.below hb2 G0.out.lt)
  replace G1 := Lib.hid (G1.out.below hb2 G1.out.lt)
  replace B := Lib.hid (bvia B.out hb2)
  clear hb2
  go_wp2
  go_ret2
  exact ⟨rfl, B.out⟩
set_option maxRecDepth 100000 in
set_option maxHeartbeats 2000000 in
theorem rkeepsC (a b c p q r s : Int) (w : World) (h : okL a b c = true) (hm : okM p q r s = true) : Calls Try.prog 33 #[vL a b c, vM p q r s] w fun e w' => e = .returned (.tuple #[.bool (decide (La.lead ⟨a, b, c⟩ ⟨p, q, r, s⟩ = ⟨a, b, c⟩)), .int .i64 0]) ∧ Below w.heap.size w w' := by
  have CC := Lib.hid (fun W => rcheckC a b c W)
  rw [show errL a b c = 0 from if_pos h] at CC
  have CM := Lib.hid (fun W => rmatrixC p q r s W)
  rw [hm] at CM
  have hl := (okL_iff a b c).1 h
  obtain ⟨fa, fb, fc, fd⟩ := (okM_iff p q r s).1 hm
  have CK := Lib.hid (fun W => rkeepC a b c p q r s W ⟨by omega, by omega⟩ ⟨by omega, by omega⟩ ⟨by omega, by omega⟩ fa fb fc fd)
  clear hl fa fb fc fd
  clear h hm
  have G0 : Hid (Has (boxW w [([.int .i64 a, .int .i64 b, .int .i64 c], 23), ([.int .i64 p, .int .i64 q, .int .i64 r, .int .i64 s], 40)]) (w.heap.size) 23 [.int .i64 a, .int .i64 b, .int .i64 c]) := box_has [([.int .i64 a, .int .i64 b, .int .i64 c], 23), ([.int .i64 p, .int .i64 q, .int .i64 r, .int .i64 s], 40)] (w := w) (Below.refl _ _) (i := 0) rfl
  have G1 : Hid (Has (boxW w [([.int .i64 a, .int .i64 b, .int .i64 c], 23), ([.int .i64 p, .int .i64 q, .int .i64 r, .int .i64 s], 40)]) (w.heap.size + 1) 40 [.int .i64 p, .int .i64 q, .int .i64 r, .int .i64 s]) := box_has [([.int .i64 a, .int .i64 b, .int .i64 c], 23), ([.int .i64 p, .int .i64 q, .int .i64 r, .int .i64 s], 40)] (w := w) (Below.refl _ _) (i := 1) rfl
  have B := Lib.hid (boxW_below [([.int .i64 a, .int .i64 b, .int .i64 c], 23), ([.int .i64 p, .int .i64 q, .int .i64 r, .int .i64 s], 40)] w)
  obtain ⟨W1, hW1⟩ : ∃ W1, W1 = boxW w [([.int .i64 a, .int .i64 b, .int .i64 c], 23), ([.int .i64 p, .int .i64 q, .int .i64 r, .int .i64 s], 40)] := ⟨_, rfl⟩
  rw [← hW1] at G0 G1 B
  go_enter Try.func33, Try.ntmps33
  go_upto_region 1 with (fail)
  rw [show (w.alloc (.cells #[.int .i64 a, .int .i64 b, .int .i64 c] 23)).alloc (.cells #[.int .i64 p, .int .i64 q, .int .i64 r, .int .i64 s] 40) = W1 from hW1.symm]
  clear hW1
  have cG00 : W1.cell? ⟨w.heap.size, 0, none⟩ = some (.int .i64 a) := G0.out.cell 0
  have cG01 : W1.cell? ⟨w.heap.size, 1, none⟩ = some (.int .i64 b) := G0.out.cell 1
  have cG02 : W1.cell? ⟨w.heap.size, 2, none⟩ = some (.int .i64 c) := G0.out.cell 2
  go_wp2_with fail
  refine (CC.out _).mono ?_
  rintro e w1 ⟨rfl, hb1⟩
  clear cG00 cG01 cG02
  replace G0 := Lib.hid (G0.out.below hb1 G0.out.lt)
  replace G1 := Lib.hid (G1.out.below hb1 G1.out.lt)
  replace B := Lib.hid (bvia B.out hb1)
  clear hb1
  have cG10 : w1.cell? ⟨w.heap.size + 1, 0, none⟩ = some (.int .i64 p) := G1.out.cell 0
  have cG11 : w1.cell? ⟨w.heap.size + 1, 1, none⟩ = some (.int .i64 q) := G1.out.cell 1
  have cG12 : w1.cell? ⟨w.heap.size + 1, 2, none⟩ = some (.int .i64 r) := G1.out.cell 2
  have cG13 : w1.cell? ⟨w.heap.size + 1, 3, none⟩ = some (.int .i64 s) := G1.out.cell 3
  go_wp2_with fail
  refine (CM.out _).mono ?_
  rintro e w2 ⟨rfl, hb2⟩
  clear cG10 cG11 cG12 cG13
  replace G0 := Lib.hid (G0.out.below hb2 G0.out.lt)
  replace G1 := Lib.hid (G1.out.below hb2 G1.out.lt)
  replace B := Lib.hid (bvia B.out hb2)
  clear hb2
  have cG00 : w2.cell? ⟨w.heap.size, 0, none⟩ = some (.int .i64 a) := G0.out.cell 0
  have cG01 : w2.cell? ⟨w.heap.size, 1, none⟩ = some (.int .i64 b) := G0.out.cell 1
  have cG02 : w2.cell? ⟨w.heap.size, 2, none⟩ = some (.int .i64 c) := G0.out.cell 2
  have cG10 : w2.cell? ⟨w.heap.size + 1, 0, none⟩ = some (.int .i64 p) := G1.out.cell 0
  have cG11 : w2.cell? ⟨w.heap.size + 1, 1, none⟩ = some (.int .i64 q) := G1.out.cell 1
  have cG12 : w2.cell? ⟨w.heap.size + 1, 2, none⟩ = some (.int .i64 r) := G1.out.cell 2
  have cG13 : w2.cell? ⟨w.heap.size + 1, 3, none⟩ = some (.int .i64 s) := G1.out.cell 3
  go_wp2_with fail
  refine (CK.out _).mono ?_
  rintro e w3 ⟨rfl, hb3⟩
  clear cG00 cG01 cG02 cG10 cG11 cG12 cG13
  replace G0 := Lib.hid (G0.out.below hb3 G0.out.lt)
  replace G1 := Lib.hid (G1.out.below hb3 G1.out.lt)
  replace B := Lib.hid (bvia B.out hb3)
  clear hb3
  go_wp2
  go_ret2
  exact ⟨rfl, B.out⟩
end Go.Proofs.Ytmghpaibdgkbfaa
/-
  The walk of the document's Leading.
-/
namespace Go.Proofs.Ytmghpaibdgkbfaa
open Go.RowKit
set_option maxRecDepth 100000 in
set_option maxHeartbeats 20000000 in
theorem leadingO (a b c p q r : Int) (w : World) (h : okL a b c = true) (hp : 1 ≤ p ∧ p ≤ 10000) (hr : 1 ≤ r ∧ r ≤ 10000) (hf : Few ⟨a, b, c⟩ ⟨p, q, r⟩) :
    Calls Try.prog 69 #[vL a b c, vL p q r] w fun e w' => (∃ (A : Option Addr) (cp : Nat), e = .returned (.slice A (La.ldg ⟨a, b, c⟩ ⟨p, q, r⟩).length cp) ∧ w'.ownsRow w.heap.size 40 4 (.slice A (La.ldg ⟨a, b, c⟩ ⟨p, q, r⟩).length cp) (La.ldg ⟨a, b, c⟩ ⟨p, q, r⟩).length (msC (La.ldg ⟨a, b, c⟩ ⟨p, q, r⟩))) ∧ Below w.heap.size w w' := by
  obtain ⟨hv, hA, hC⟩ := okL_val h
  have hb := hv.b_lt hA hC
  have ha1 : 1 ≤ a := hv.a1
  have hc1 : 1 ≤ c := hv.c1
  have CS1 := Lib.hid (fun W => stepsC6 a b c p W h hp)
  have CS2 := Lib.hid (fun W => stepsC6 a b c r W h hr)
  have HE : (La.ldEn ⟨a, b, c⟩ ⟨p, q, r⟩ (La.stl ⟨a, b, c⟩ p 20001) (La.stl ⟨a, b, c⟩ r 20001)).length ≤ 81 := few_en hv hA hC hp.2 hr.2 hf
  have hPB : ∀ x y, (x, y) ∈ La.stl ⟨a, b, c⟩ p 20001 → In6 10000 x ∧ In6 10000 y := fun x y hm => by
    obtain ⟨h1, h2⟩ := La.fit_of hv hA hC (x := x) (y := y) (by rw [(La.mem_steps hv hA hC hp.2).1 hm]; exact hp.2)
    exact ⟨h1, h2⟩
  have hQB : ∀ x y, (x, y) ∈ La.stl ⟨a, b, c⟩ r 20001 → In6 10000 x ∧ In6 10000 y := fun x y hm => by
    obtain ⟨h1, h2⟩ := La.fit_of hv hA hC (x := x) (y := y) (by rw [(La.mem_steps hv hA hC hr.2).1 hm]; exact hr.2)
    exact ⟨h1, h2⟩
  have hP1 := La.stl_len ⟨a, b, c⟩ p 20001
  have hQ1 := La.stl_len ⟨a, b, c⟩ r 20001
  have HG : Hid (La.ldg ⟨a, b, c⟩ ⟨p, q, r⟩ = La.insAll [] (La.ldEn ⟨a, b, c⟩ ⟨p, q, r⟩ (La.stl ⟨a, b, c⟩ p 20001) (La.stl ⟨a, b, c⟩ r 20001))) := rfl
  generalize La.stl ⟨a, b, c⟩ p 20001 = PS at *
  generalize La.stl ⟨a, b, c⟩ r 20001 = QS at *
  have CXY : Hid (∀ (x1 x2 y1 y2 : Int), (x1, x2) ∈ PS → (y1, y2) ∈ QS → (∀ W, Calls Try.prog 58 #[vP x1 x2, vP y1 y2] W fun e w' => e = .returned (.int .i64 (x1 * y2 - x2 * y1)) ∧ Below W.heap.size W w') ∧ (∀ W, Calls Try.prog 47 #[vL a b c, vP x1 x2, vP y1 y2] W fun e w' => e = .returned (.int .i64 (La.prod ⟨a, b, c⟩ x1 x2 y1 y2)) ∧ Below W.heap.size W w')) := fun x1 x2 y1 y2 hx hy => by
    obtain ⟨⟨p1, p2⟩, p3, p4⟩ := hPB x1 x2 hx
    obtain ⟨⟨q1, q2⟩, q3, q4⟩ := hQB y1 y2 hy
    refine ⟨fun W => rcrossC x1 x2 y1 y2 W ⟨by omega, by omega⟩ ⟨by omega, by omega⟩ ⟨by omega, by omega⟩ ⟨by omega, by omega⟩, fun W => ?_⟩
    rw [← prodL_la]
    exact rproductC a b c x1 x2 y1 y2 W ⟨by omega, hA⟩ ⟨hb.1, hb.2⟩ ⟨by omega, hC⟩ ⟨by omega, by omega⟩ ⟨by omega, by omega⟩ ⟨by omega, by omega⟩ ⟨by omega, by omega⟩
  have HE := Lib.hid HE
  have HN := Lib.hid (And.intro hP1 hQ1)
  clear hv hA hC hb ha1 hc1 hPB hQB hP1 hQ1 h hp hr hf
  have G0 : Hid (Has (boxW w [([.int .i64 a, .int .i64 b, .int .i64 c], 23), ([.int .i64 p, .int .i64 q, .int .i64 r], 23)]) w.heap.size 23 [.int .i64 a, .int .i64 b, .int .i64 c]) := box_has [([.int .i64 a, .int .i64 b, .int .i64 c], 23), ([.int .i64 p, .int .i64 q, .int .i64 r], 23)] (w := w) (Below.refl _ _) (i := 0) rfl
  have G1 : Hid (Has (boxW w [([.int .i64 a, .int .i64 b, .int .i64 c], 23), ([.int .i64 p, .int .i64 q, .int .i64 r], 23)]) (w.heap.size + 1) 23 [.int .i64 p, .int .i64 q, .int .i64 r]) := box_has [([.int .i64 a, .int .i64 b, .int .i64 c], 23), ([.int .i64 p, .int .i64 q, .int .i64 r], 23)] (w := w) (Below.refl _ _) (i := 1) rfl
  have B := Lib.hid (boxW_below [([.int .i64 a, .int .i64 b, .int .i64 c], 23), ([.int .i64 p, .int .i64 q, .int .i64 r], 23)] w)
  obtain ⟨W1, hW1⟩ : ∃ W1, W1 = boxW w [([.int .i64 a, .int .i64 b, .int .i64 c], 23), ([.int .i64 p, .int .i64 q, .int .i64 r], 23)] := ⟨_, rfl⟩
  rw [← hW1] at G0 G1 B
  go_enter Try.func69, Try.ntmps69
  go_upto_region 1 with (fail)
  rw [show (w.alloc (.cells #[.int .i64 a, .int .i64 b, .int .i64 c] 23)).alloc (.cells #[.int .i64 p, .int .i64 q, .int .i64 r] 23) = W1 from hW1.symm]
  clear hW1
  have HF := Lib.hid (fun (V : World) (hV : Below W1.heap.size W1 V) => (⟨(G0.out.below hV G0.out.lt).cell 0, (G0.out.below hV G0.out.lt).cell 1, (G0.out.below hV G0.out.lt).cell 2, (G1.out.below hV G1.out.lt).cell 0, (G1.out.below hV G1.out.lt).cell 2⟩ : V.cell? ⟨w.heap.size, 0, none⟩ = some (.int .i64 a) ∧ V.cell? ⟨w.heap.size, 1, none⟩ = some (.int .i64 b) ∧ V.cell? ⟨w.heap.size, 2, none⟩ = some (.int .i64 c) ∧ V.cell? ⟨w.heap.size + 1, 0, none⟩ = some (.int .i64 p) ∧ V.cell? ⟨w.heap.size + 1, 2, none⟩ = some (.int .i64 r)))
  go_cut [5, 6] from 14 (fun v1 v2 wx => ∃ (A1 A2 : Option Addr) (c1 c2 : Nat), v1 = .slice A1 PS.length c1 ∧ v2 = .slice A2 QS.length c2 ∧ Hid (RdP wx wx.heap.size A1 PS) ∧ Hid (RdP wx wx.heap.size A2 QS) ∧ Hid (Below W1.heap.size W1 wx))
  case first =>
    have z0 := (Below.refl W1.heap.size W1).drew

    go_region_held3 (fun V => V.cell? ⟨w.heap.size, 0, none⟩ = some (.int .i64 a) ∧ V.cell? ⟨w.heap.size, 1, none⟩ = some (.int .i64 b) ∧ V.cell? ⟨w.heap.size, 2, none⟩ = some (.int .i64 c) ∧ V.cell? ⟨w.heap.size + 1, 0, none⟩ = some (.int .i64 p) ∧ V.cell? ⟨w.heap.size + 1, 2, none⟩ = some (.int .i64 r)) (first | exact HF.out _ (by assumption) | go_keep) (first
      | (go_simp; go_at_call 89; with_reducible refine (CS1.out _).mono ?_; rintro e w3 ⟨⟨A1, c1, rfl, ow1⟩, hb3⟩; have z3 : Below W1.heap.size W1 w3 := (by first | exact bvia z4 hb3 | exact bvia z0 hb3); have r1 := own_rdP6 ow1; (try replace r2 := r2.up hb3); clear ow1 hb3)
      | (go_simp; go_at_call 89; with_reducible refine (CS2.out _).mono ?_; rintro e w4 ⟨⟨A2, c2, rfl, ow2⟩, hb4⟩; have z4 : Below W1.heap.size W1 w4 := (by first | exact bvia z3 hb4 | exact bvia z0 hb4); have r2 := own_rdP6 ow2; (try replace r1 := r1.up hb4); clear ow2 hb4)
      | fail)
    go_wp2
    go_meet
    case rel => exact ⟨A1, A2, c1, c2, rfl, rfl, Lib.hid r1, Lib.hid r2, Lib.hid z4⟩
  case rest =>
    obtain ⟨A1, A2, c1, c2, hv1, hv2, R1, R2, hb⟩ := hcut
    subst hv1 hv2
    replace G0 := Lib.hid (G0.out.below hb.out G0.out.lt)
    replace G1 := Lib.hid (G1.out.below hb.out G1.out.lt)
    replace B := Lib.hid (bvia B.out hb.out)
    clear HF hb CS1 CS2
    obtain ⟨n1, hn1⟩ : ∃ n, n = PS.length := ⟨_, rfl⟩
    obtain ⟨n2, hn2⟩ : ∃ n, n = QS.length := ⟨_, rfl⟩
    rw [← hn1, ← hn2] at HN ⊢
    have hb1 : n1 ≤ 40002 := by have := HN.out.1; omega
    have hb2 : n2 ≤ 40002 := by have := HN.out.2; omega
    have HL1 : Hid (PS.length = n1) := hn1.symm
    have HL2 : Hid (QS.length = n2) := hn2.symm
    clear hn1 hn2 HN
    go_upto_region 3 with (fail)
    go_wp2
    go_loopw [7, 8] (fun v iv wr => ∃ (i m : Nat) (A : Option Addr) (cp : Nat), i ≤ n1 ∧ iv = .int .i64 (i : Int) ∧ v = .slice A m cp ∧ m ≤ 81 ∧ Hid (m = (La.outL ⟨a, b, c⟩ ⟨p, q, r⟩ PS QS i 0).length) ∧ Hid (wr.ownsRow w.heap.size 40 4 v m (msC (La.outL ⟨a, b, c⟩ ⟨p, q, r⟩ PS QS i 0))) ∧ Hid (Has wr w.heap.size 23 [.int .i64 a, .int .i64 b, .int .i64 c]) ∧ Hid (Has wr (w.heap.size + 1) 23 [.int .i64 p, .int .i64 q, .int .i64 r]) ∧ Hid (RdP wr wr.heap.size A1 PS) ∧ Hid (RdP wr wr.heap.size A2 QS) ∧ Hid (Below w.heap.size w wr)) (fun _ iv _ => n1 - (intOf iv).toNat)
    case atStart => exact ⟨0, 0, none, 0, by omega, rfl, rfl, by omega, by show _ = _; rw [La.outL_zero]; rfl, by show World.ownsRow _ _ _ _ _ _ _; rw [La.outL_zero]; exact World.ownsRow_nil _ _ _ _, G0, G1, R1, R2, B⟩
    case round =>
      clear G0 G1 R1 R2 B
      obtain ⟨i, m, A, cp, hi, rfl, rfl, hm, HM, HO, G0, G1, R1, R2, B⟩ := hrel
      obtain ⟨wo, rfl⟩ : ∃ wo : World, wo = wr := ⟨_, rfl⟩
      by_cases hlt : i < n1
      · have ji : (i : Int) < (n1 : Int) := by omega
        have i0 : (0 : Int) ≤ (i : Int) := by omega
        have ii : IntKind.i64.wrap ((i : Int) + 1) = (i : Int) + 1 := IntWalk.i64_in _ (by omega)
        have HI1 : Hid (i + 1 ≤ n1) := by show _ ≤ _; omega
        obtain ⟨⟨x1, x2⟩, hx⟩ := get_of_lt (l := PS) (k := i) (by rw [HL1.out]; exact hlt)
        have HX := Lib.hid hx
        obtain ⟨b1, o1, rfl, _⟩ := R1.out i _ hx
        have HMX : Hid (n1 - (intOf (.int .i64 ((i : Int) + 1))).toNat < n1 - (intOf (.int .i64 (i : Int))).toNat) := by show _ < _; simp only [intOf]; omega
        clear hx hi hlt
        go_wp2
        go_loopw [7, 9] (fun v kv wr => ∃ (k m : Nat) (A : Option Addr) (cp : Nat), k ≤ n2 ∧ kv = .int .i64 (k : Int) ∧ v = .slice A m cp ∧ m ≤ 81 ∧ Hid (m = (La.outL ⟨a, b, c⟩ ⟨p, q, r⟩ PS QS i k).length) ∧ Hid (wr.ownsRow w.heap.size 40 4 v m (msC (La.outL ⟨a, b, c⟩ ⟨p, q, r⟩ PS QS i k))) ∧ Hid (Has wr w.heap.size 23 [.int .i64 a, .int .i64 b, .int .i64 c]) ∧ Hid (Has wr (w.heap.size + 1) 23 [.int .i64 p, .int .i64 q, .int .i64 r]) ∧ Hid (RdP wr wr.heap.size (some ⟨b1, o1, none⟩) PS) ∧ Hid (RdP wr wr.heap.size A2 QS) ∧ Hid (Below w.heap.size w wr)) (fun _ kv _ => n2 - (intOf kv).toNat)
        case atStart => exact ⟨0, m, A, cp, by omega, rfl, rfl, hm, HM, HO, G0, G1, R1, R2, B⟩
        case round =>
          clear G0 G1 R1 R2 B HM HO hm
          obtain ⟨k, m, A, cp, hk, rfl, rfl, hm, HM, HO, G0, G1, R1, R2, B⟩ := hrel
          obtain ⟨w1, rfl⟩ : ∃ w1 : World, w1 = wr := ⟨_, rfl⟩
          by_cases hlt : k < n2
          · have jk : (k : Int) < (n2 : Int) := by omega
            have k0 : (0 : Int) ≤ (k : Int) := by omega
            have ik : IntKind.i64.wrap ((k : Int) + 1) = (k : Int) + 1 := IntWalk.i64_in _ (by omega)
            have HK1 : Hid (k + 1 ≤ n2) := by show _ ≤ _; omega
            have HMY : Hid (n2 - (intOf (.int .i64 ((k : Int) + 1))).toNat < n2 - (intOf (.int .i64 (k : Int))).toNat) := by show _ < _; simp only [intOf]; omega
            obtain ⟨⟨y1, y2⟩, hy⟩ := get_of_lt (l := QS) (k := k) (by rw [HL2.out]; exact hlt)
            have HY := Lib.hid hy
            obtain ⟨b2, o2, rfl, _⟩ := R2.out k _ hy
            obtain ⟨CX, CP⟩ := CXY.out x1 x2 y1 y2 (List.mem_of_getElem? HX.out) (List.mem_of_getElem? hy)
            have HDy := ldOne_yes (l := ⟨a, b, c⟩) (tt := ⟨p, q, r⟩) (p := (x1, x2)) (q := (y1, y2))
            have HDn := ldOne_no (l := ⟨a, b, c⟩) (tt := ⟨p, q, r⟩) (p := (x1, x2)) (q := (y1, y2))
            simp only at HDy HDn
            generalize La.prod ⟨a, b, c⟩ x1 x2 y1 y2 = PR at *
            generalize x1 * y2 - x2 * y1 = D at *
            replace HDy := Lib.hid HDy
            replace HDn := Lib.hid HDn
            replace CX := Lib.hid CX
            replace CP := Lib.hid CP
            clear hy hk hlt
            have e10 : w1.cell? ⟨b1, o1 + i * 2, none⟩ = some (.int .i64 x1) := (rdP_get R1.out HX.out).2.1
            have e11 : w1.cell? ⟨b1, o1 + i * 2 + 1, none⟩ = some (.int .i64 x2) := (rdP_get R1.out HX.out).2.2
            have qe1 : b1 < w1.heap.size := (rdP_get R1.out HX.out).1
            have e20 : w1.cell? ⟨b2, o2 + k * 2, none⟩ = some (.int .i64 y1) := (rdP_get R2.out HY.out).2.1
            have e21 : w1.cell? ⟨b2, o2 + k * 2 + 1, none⟩ = some (.int .i64 y2) := (rdP_get R2.out HY.out).2.2
            have qe2 : b2 < w1.heap.size := (rdP_get R2.out HY.out).1
            have hxc := fun (x : Ext w1) => x.cell
            go_upto_region 9 with (fail)
            refine wp_region_ext (by kernel_rfl) (by kernel_rfl) ?_
            repeat (go_big_quiet_step ((go_at_call 58; exact ext_call (CX.out _))))
            refine wpQuiet_nil ?_
            intro w2 hw'
            have hb2' := ext_below hw'
            clear hw' hxc e10 e11 e20 e21 qe1 qe2 CX
            replace G0 := Lib.hid (G0.out.below hb2' G0.out.lt)
            replace G1 := Lib.hid (G1.out.below hb2' G1.out.lt)
            replace R1 := Lib.hid (R1.out.up hb2')
            replace R2 := Lib.hid (R2.out.up hb2')
            replace HO := Lib.hid (own_below HO.out hb2')
            replace B := Lib.hid (bvia B.out hb2')
            clear hb2'
            have e10 : w2.cell? ⟨b1, o1 + i * 2, none⟩ = some (.int .i64 x1) := (rdP_get R1.out HX.out).2.1
            have e11 : w2.cell? ⟨b1, o1 + i * 2 + 1, none⟩ = some (.int .i64 x2) := (rdP_get R1.out HX.out).2.2
            have qe1 : b1 < w2.heap.size := (rdP_get R1.out HX.out).1
            have e20 : w2.cell? ⟨b2, o2 + k * 2, none⟩ = some (.int .i64 y1) := (rdP_get R2.out HY.out).2.1
            have e21 : w2.cell? ⟨b2, o2 + k * 2 + 1, none⟩ = some (.int .i64 y2) := (rdP_get R2.out HY.out).2.2
            have qe2 : b2 < w2.heap.size := (rdP_get R2.out HY.out).1
            have g00 : w2.cell? ⟨w.heap.size, 0, none⟩ = some (.int .i64 a) := G0.out.cell 0
            have g01 : w2.cell? ⟨w.heap.size, 1, none⟩ = some (.int .i64 b) := G0.out.cell 1
            have g02 : w2.cell? ⟨w.heap.size, 2, none⟩ = some (.int .i64 c) := G0.out.cell 2
            have g11 : w2.cell? ⟨w.heap.size + 1, 1, none⟩ = some (.int .i64 q) := G1.out.cell 1
            have qg0 := G0.out.lt
            have qg1 := G1.out.lt
            have hxc := fun (x : Ext w2) => x.cell
            go_upto_region 10 with (fail)
            go_cut [63] from 28 to 112 (fun zz wx => (∃ g, zz = .bool g ∧ (g = true → La.ldOne ⟨a, b, c⟩ ⟨p, q, r⟩ (x1, x2) (y1, y2) = []) ∧ (g = false → La.ldOne ⟨a, b, c⟩ ⟨p, q, r⟩ (x1, x2) (y1, y2) = [⟨x1, y1, x2, y2⟩])) ∧ Hid (Below w2.heap.size w2 wx))
            case first =>
              clear HM HO hm
              by_cases h1 : PR = q
              · have k1 : (PR != q) = false := by rw [h1]; simp
                by_cases h2 : D = 1
                · have k2 : (D != 1) = false := by rw [h2]; rfl
                  have hr := HDy.out h1 (.inl h2)
                  clear h1 h2
                  refine wp_region_ext (by kernel_rfl) (by kernel_rfl) ?_
                  repeat (go_big_quiet_step ((go_at_call 47; exact ext_call (CP.out _))))
                  refine wpQuiet_nil ?_
                  intro w3 hw'
                  have hb3 := ext_below hw'
                  go_wp2
                  go_meet
                  case rel => exact ⟨⟨false, rfl, (fun e => nomatch e), fun _ => hr⟩, Lib.hid hb3⟩
                · have k2 : (D != 1) = true := bne_iff_ne.2 h2
                  by_cases h3 : D = -1
                  · have k3 : (D != -1) = false := by rw [h3]; rfl
                    have hr := HDy.out h1 (.inr h3)
                    clear h1 h2 h3
                    refine wp_region_ext (by kernel_rfl) (by kernel_rfl) ?_
                    repeat (go_big_quiet_step ((go_at_call 47; exact ext_call (CP.out _))))
                    refine wpQuiet_nil ?_
                    intro w3 hw'
                    have hb3 := ext_below hw'
                    go_wp2
                    go_meet
                    case rel => exact ⟨⟨false, rfl, (fun e => nomatch e), fun _ => hr⟩, Lib.hid hb3⟩
                  · have k3 : (D != -1) = true := bne_iff_ne.2 h3
                    have hr := HDn.out (fun h => h.2.elim h2 h3)
                    clear h1 h2 h3
                    refine wp_region_ext (by kernel_rfl) (by kernel_rfl) ?_
                    repeat (go_big_quiet_step ((go_at_call 47; exact ext_call (CP.out _))))
                    refine wpQuiet_nil ?_
                    intro w3 hw'
                    have hb3 := ext_below hw'
                    go_wp2
                    go_meet
                    case rel => exact ⟨⟨true, rfl, fun _ => hr, (fun e => nomatch e)⟩, Lib.hid hb3⟩
              · have k1 : (PR != q) = true := bne_iff_ne.2 h1
                have hr := HDn.out (fun h => h1 h.1)
                clear h1
                refine wp_region_ext (by kernel_rfl) (by kernel_rfl) ?_
                repeat (go_big_quiet_step ((go_at_call 47; exact ext_call (CP.out _))))
                refine wpQuiet_nil ?_
                intro w3 hw'
                have hb3 := ext_below hw'
                go_wp2
                go_meet
                case rel => exact ⟨⟨true, rfl, fun _ => hr, (fun e => nomatch e)⟩, Lib.hid hb3⟩
            case rest =>
              obtain ⟨⟨g, hz, hy, hn⟩, hb3⟩ := hcut
              subst hz
              replace hb3 := hb3.out
              clear hxc e10 e11 e20 e21 qe1 qe2 g00 g01 g02 g11 qg0 qg1 CP HDy HDn
              replace G0 := Lib.hid (G0.out.below hb3 G0.out.lt)
              replace G1 := Lib.hid (G1.out.below hb3 G1.out.lt)
              replace R1 := Lib.hid (R1.out.up hb3)
              replace R2 := Lib.hid (R2.out.up hb3)
              replace HO := Lib.hid (own_below HO.out hb3)
              replace B := Lib.hid (bvia B.out hb3)
              clear hb3
              cases g with
              | true =>
                replace hy := hy rfl
                have HZ : Hid (La.outL ⟨a, b, c⟩ ⟨p, q, r⟩ PS QS i (k + 1) = La.outL ⟨a, b, c⟩ ⟨p, q, r⟩ PS QS i k) := La.outL_no HX.out HY.out hy
                clear hy hn
                go_wp2
                exact ⟨⟨k + 1, m, A, cp, HK1.out, rfl, rfl, hm, by show _ = _; rw [HZ.out]; exact HM.out, by show World.ownsRow _ _ _ _ _ _ _; rw [HZ.out]; exact HO.out, G0, G1, R1, R2, B⟩, HMY.out⟩
              | false =>
                replace hn := hn rfl
                have HZ : Hid (La.outL ⟨a, b, c⟩ ⟨p, q, r⟩ PS QS i (k + 1) = ins ⟨x1, y1, x2, y2⟩ (La.outL ⟨a, b, c⟩ ⟨p, q, r⟩ PS QS i k)) := La.outL_yes HX.out HY.out hn
                clear hy hn
                go_upto_region 11 with (fail)
                refine wp_region_news [.q, .q, .q, .q, .q, .q, .q, .q, .q, .q, .q, .q, .q, .q, .q, .q, .q, .q, .q, .q, .q, .mk 0, .st 0] [⟨11, 84, none, 40, [.int .i64 0, .int .i64 0, .int .i64 0, .int .i64 0], [.int .i64 x1, .int .i64 y1, .int .i64 x2, .int .i64 y2], .agg #[.int .i64 x1, .int .i64 y1, .int .i64 x2, .int .i64 y2]⟩] ?aH1 (by kernel_rfl) (by kernel_rfl) (by simp) (by simp) ?hq1 ?hv1 ?hA1 ?he1
                case hq1 =>
                  intro w5 h5
                  have r1 := R1.out.up h5
                  have r2 := R2.out.up h5
                  have e10 : w5.cell? ⟨b1, o1 + i * 2, none⟩ = some (.int .i64 x1) := (rdP_get r1 HX.out).2.1
                  have e11 : w5.cell? ⟨b1, o1 + i * 2 + 1, none⟩ = some (.int .i64 x2) := (rdP_get r1 HX.out).2.2
                  have qe1 : b1 < w5.heap.size := (rdP_get r1 HX.out).1
                  have e20 : w5.cell? ⟨b2, o2 + k * 2, none⟩ = some (.int .i64 y1) := (rdP_get r2 HY.out).2.1
                  have e21 : w5.cell? ⟨b2, o2 + k * 2 + 1, none⟩ = some (.int .i64 y2) := (rdP_get r2 HY.out).2.2
                  have qe2 : b2 < w5.heap.size := (rdP_get r2 HY.out).1
                  have hxc := fun (x : Ext w5) => x.cell
                  clear r1 r2
                  show wpQuiet _ _ _ _ [_, _, _, _, _, _, _, _, _, _, _, _, _, _, _, _, _, _, _, _, _] _
                  repeat (go_big_quiet_step (fail))
                  refine wpQuiet_nil ?_
                  rfl
                case hv1 => simp
                case hA1 =>
                  refine ⟨fun x hx => ?_, fun x hx => ?_, trivial⟩ <;> (obtain rfl := Option.some.inj hx)
                  · exact fun b W => by go_simp
                  · exact stOk_agg rfl rfl (by kernel_rfl) rfl (by kernel_rfl)
                case he1 =>
                  intro bs w5 hb5 hH _
                  have HP0 := (hH 0 _ rfl).1
                  obtain ⟨KM, hKM⟩ : ∃ K, K = bs 0 := ⟨_, rfl⟩
                  clear hH
                  simp only [putN, ← hKM, Act.put, List.setIfInBounds_toArray, List.set_cons_zero, List.set_cons_succ] at HP0 ⊢
                  clear hKM
                  replace G0 := Lib.hid (G0.out.below hb5 G0.out.lt)
                  replace G1 := Lib.hid (G1.out.below hb5 G1.out.lt)
                  replace R1 := Lib.hid (R1.out.up hb5)
                  replace R2 := Lib.hid (R2.out.up hb5)
                  replace HO := Lib.hid (own_below HO.out hb5)
                  replace B := Lib.hid (bvia B.out hb5)
                  clear hb5
                  have GM : Hid (Has w5 KM 40 [.int .i64 x1, .int .i64 y1, .int .i64 x2, .int .i64 y2]) := HP0
                  clear HP0
                  obtain ⟨O, hO⟩ : ∃ O, O = (La.outL ⟨a, b, c⟩ ⟨p, q, r⟩ PS QS i k) := ⟨_, rfl⟩
                  rw [← hO] at HZ HM HO
                  clear hO
                  have RO := Lib.hid (own_rdM4 HO.out)
                  have HC := Lib.hid (own_caps HO.out)
                  go_upto_region 12 with (fail)
                  go_wp2
                  go_loopw [12] (fun tv wr => ∃ (t : Nat), t ≤ m ∧ tv = .int .i64 (t : Int) ∧ Hid (∀ x ∈ O.take t, ordI x ⟨x1, y1, x2, y2⟩ < 0) ∧ Hid (Below w5.heap.size w5 wr)) (fun tv _ => m - (intOf tv).toNat)
                  case atStart => exact ⟨0, by omega, rfl, Lib.hid (fun x hx => by simp at hx), Lib.hid (Below.refl _ _)⟩
                  case round =>
                    obtain ⟨t, htm, rfl, HT, hb6⟩ := hrel
                    obtain ⟨w6, rfl⟩ : ∃ w6 : World, w6 = wr := ⟨_, rfl⟩
                    have H6 := hb6
                    replace hb6 := hb6.out
                    replace G0 := Lib.hid (G0.out.below hb6 G0.out.lt)
                    replace G1 := Lib.hid (G1.out.below hb6 G1.out.lt)
                    replace GM := Lib.hid (GM.out.below hb6 GM.out.lt)
                    replace R1 := Lib.hid (R1.out.up hb6)
                    replace R2 := Lib.hid (R2.out.up hb6)
                    replace HO := Lib.hid (own_below HO.out hb6)
                    replace B := Lib.hid (bvia B.out hb6)
                    replace RO := Lib.hid (RO.out.up hb6)
                    clear hb6
                    have htl : (t : Int) ≤ (m : Int) := by omega
                    have t0 : (0 : Int) ≤ (t : Int) := by omega
                    have it : IntKind.i64.wrap ((t : Int) + 1) = (t : Int) + 1 := IntWalk.i64_in _ (by omega)
                    go_upto_region 13 with (fail)
                    go_cut [96] from 85 to 98 (fun zz wx => zz = .bool (goB O ⟨x1, y1, x2, y2⟩ t) ∧ Hid (Below w6.heap.size w6 wx))
                    case first =>
                      have m0 : w6.cell? ⟨KM, 0, none⟩ = some (.int .i64 x1) := GM.out.cell 0
                      have m1 : w6.cell? ⟨KM, 1, none⟩ = some (.int .i64 y1) := GM.out.cell 1
                      have m2 : w6.cell? ⟨KM, 2, none⟩ = some (.int .i64 x2) := GM.out.cell 2
                      have m3 : w6.cell? ⟨KM, 3, none⟩ = some (.int .i64 y2) := GM.out.cell 3
                      have qm := GM.out.lt
                      have hxc := fun (x : Ext w6) => x.cell
                      by_cases ht : t < m
                      · have jt : (t : Int) < (m : Int) := by omega
                        obtain ⟨⟨u0, u1, u2, u3⟩, hu⟩ := get_of_lt (l := O) (k := t) (by rw [← HM.out]; exact ht)
                        obtain ⟨gb, go, rfl⟩ := RdM4.some_of' RO.out (List.length_pos_of_mem (List.mem_of_getElem? hu))
                        obtain ⟨qu, v0, v1, v2, v3⟩ := RdM4.get' RO.out hu
                        simp only at v0 v1 v2 v3
                        have kd : decide (t < m) = true := decide_eq_true ht
                        have kd2 : decide ((t : Int) < (m : Int)) = true := decide_eq_true jt
                        have CLs := Lib.hid (fun W => lessC ⟨u0, u1, u2, u3⟩ ⟨x1, y1, x2, y2⟩ W)
                        simp only at CLs
                        have hg := goB_at (m := ⟨x1, y1, x2, y2⟩) hu
                        generalize decide (ordI (⟨u0, u1, u2, u3⟩ : La.Mat) ⟨x1, y1, x2, y2⟩ < 0) = bb at *
                        have HGB := Lib.hid hg
                        clear hg hu ht HM HO HT
                        refine wp_region_ext (by kernel_rfl) (by kernel_rfl) ?_
                        repeat (go_big_quiet_step ((go_at_call 90; exact ext_call (CLs.out _))))
                        refine wpQuiet_nil ?_
                        intro w7 hw'
                        have hb7 := ext_below hw'
                        go_wp2
                        go_meet
                        case rel => exact ⟨by rw [HGB.out], Lib.hid hb7⟩
                      · have kd : decide (t < m) = false := decide_eq_false ht
                        have kd2 : decide ((t : Int) < (m : Int)) = false := decide_eq_false (by omega)
                        have HGB := Lib.hid (goB_len (O := O) (m := ⟨x1, y1, x2, y2⟩) (t := t) (by rw [← HM.out]; omega))
                        clear ht HM HO HT
                        refine wp_region_ext (by kernel_rfl) (by kernel_rfl) ?_
                        repeat (go_big_quiet_step (fail))
                        refine wpQuiet_nil ?_
                        intro w7 hw'
                        have hb7 := ext_below hw'
                        go_wp2
                        go_meet
                        case rel => exact ⟨by rw [HGB.out], Lib.hid hb7⟩
                    case rest =>
                      obtain ⟨hz, hb7⟩ := hcut
                      subst hz
                      replace hb7 := hb7.out
                      replace H6 := Lib.hid (bvia H6.out hb7)
                      replace G0 := Lib.hid (G0.out.below hb7 G0.out.lt)
                      replace G1 := Lib.hid (G1.out.below hb7 G1.out.lt)
                      replace GM := Lib.hid (GM.out.below hb7 GM.out.lt)
                      replace R1 := Lib.hid (R1.out.up hb7)
                      replace R2 := Lib.hid (R2.out.up hb7)
                      replace HO := Lib.hid (own_below HO.out hb7)
                      replace B := Lib.hid (bvia B.out hb7)
                      replace RO := Lib.hid (RO.out.up hb7)
                      cases hg : goB O ⟨x1, y1, x2, y2⟩ t with
                      | true =>
                        obtain ⟨g1, g2⟩ := goB_yes hg HT.out
                        have HT2 := Lib.hid g2
                        have g3 : t + 1 ≤ m := by rw [HM.out]; exact g1
                        clear hg g1 g2 HT
                        have HMT : Hid (m - (intOf (.int .i64 ((t : Int) + 1))).toNat < m - (intOf (.int .i64 (t : Int))).toNat) := by show _ < _; simp only [intOf]; omega
                        go_wp2
                        exact ⟨⟨t + 1, g3, by rw [Int.natCast_add]; rfl, HT2, H6⟩, HMT.out⟩
                      | false =>
                        have HGN := Lib.hid (goB_no hg)
                        clear hg
                        have hsl := fun W => sliceM_to A m cp t (by have := HC.out.1; omega) W
                        obtain ⟨NB, hNB⟩ : ∃ n, n = wc.heap.size := ⟨_, rfl⟩
                        have hNw : w.heap.size ≤ NB := by rw [hNB]; exact B.out.size
                        have hKM : KM < NB := by rw [hNB]; exact GM.out.lt
                        obtain ⟨A', c', hsf, hA'⟩ := sliceM_from A m cp t htm HC.out.1
                        have RT := Lib.hid (RO.out.takes t)
                        have RD := Lib.hid (fun (W : World) (hW : Below wc.heap.size wc W) => (RO.out.up hW).drops (A' := A') (k := t) HM.out.symm hA')
                        have HTL : (O.take t).length = t := by rw [List.length_take, ← HM.out]; omega
                        have HDL : (O.drop t).length = m - t := by rw [List.length_drop, ← HM.out]
                        have HIN := Lib.hid (HZ.out.trans (ins_at (m := ⟨x1, y1, x2, y2⟩) (l := O) (k := t) (by rw [← HM.out]; exact htm) HT.out HGN.out))
                        have HLE := La.outL_len (l := ⟨a, b, c⟩) (tt := ⟨p, q, r⟩) (ps := PS) (qs := QS) i (k + 1) HE.out
                        rw [HZ.out, ins_len, ← HM.out] at HLE
                        have HW := Lib.hid hNB
                        have HLN : Hid (m + 1 = (La.outL ⟨a, b, c⟩ ⟨p, q, r⟩ PS QS i (k + 1)).length) := by show _ = _; rw [HZ.out, ins_len, HM.out]
                        have HTM := Lib.hid htm
                        clear HZ HGN HT H6 hNB HO RO htm htl t0 it hb7
                        have n0 : NB ≤ wc.heap.size := Nat.le_of_eq HW.out
                        have nW : wc.heap.size ≤ NB := Nat.le_of_eq HW.out.symm
                        go_wp2_with (first
                          | (at_builtin; refine wpList_appD rfl (.tmp 99) (.tmp 102) rfl NB (.slice (some ⟨wc.heap.size, 0, none⟩) 0 0) 0 [] rfl (own_lit0 n0) A t cp (O.take t) rfl (RT.out.up ((Below.refl _ wc).alloc (Nat.le_refl _) (.cells #[] 40))) HTL (by have := HTM.out; omega) (by simp; omega) ?_; intro A3 c3 w7 hown3 hgrow3; have D3 : Below NB wc w7 := ((Below.refl NB wc).alloc n0 (.cells #[] 40)).grown hgrow3 (by simp; omega) (fun k hk => by simp [Value.ownBlock] at hk; omega); rw [Nat.zero_add, List.nil_append] at hown3; rw [Nat.zero_add]; have G7 : Has w7 KM 40 [.int .i64 x1, .int .i64 y1, .int .i64 x2, .int .i64 y2] := GM.out.below D3 hKM; have m0 : w7.cell? ⟨KM, 0, none⟩ = some (.int .i64 x1) := G7.cell 0; have m1 : w7.cell? ⟨KM, 1, none⟩ = some (.int .i64 y1) := G7.cell 1; have m2 : w7.cell? ⟨KM, 2, none⟩ = some (.int .i64 x2) := G7.cell 2; have m3 : w7.cell? ⟨KM, 3, none⟩ = some (.int .i64 y2) := G7.cell 3; have q7 := G7.lt; have n7 : NB ≤ w7.heap.size := Nat.le_trans n0 D3.size)
                          | (at_builtin; refine wpList_app rfl (.tmp 104) (.tmp 106) _ rfl NB 40 (.agg #[.int .i64 0, .int .i64 0, .int .i64 0, .int .i64 0]) 4 32 Try.underlying51 infoMat rfl (by omega) (by omega) (.slice A3 t c3) _ _ rfl (hown3.alloc _) w7.heap.size (mC ⟨x1, y1, x2, y2⟩) rfl rfl (news_mat _ ⟨x1, y1, x2, y2⟩ _) (one_mat _) (by have := HTM.out; omega) (by simp; omega) ?_; intro g4 c4 w8 hg4 hown4 hgrow4 hor4; have D4 : Below NB w7 w8 := ((Below.refl NB w7).alloc n7 (.cells #[.int .i64 x1, .int .i64 y1, .int .i64 x2, .int .i64 y2] 40)).grown hgrow4 (by simp; omega) (fun k hk => (hown3.lt k hk).1); have hown4' := app_ownM hown4; have RD8 := RD.out w8 ((D3.trans D4).mono nW); have n8 : NB ≤ w8.heap.size := Nat.le_trans n7 D4.size; clear m0 m1 m2 m3 q7)
                          | (at_builtin; refine wpList_appD rfl (.tmp 108) (.tmp 111) rfl NB (.slice (some ⟨g4, 0, none⟩) (t + 1) c4) (t + 1) (O.take t ++ [⟨x1, y1, x2, y2⟩]) rfl hown4' A' (m - t) c' (O.drop t) rfl RD8 HDL (by have := HTM.out; omega) n8 ?_; intro A5 c5 w9 hown5 hgrow5; have e5 : t + 1 + (m - t) = m + 1 := (by have := HTM.out; omega); rw [e5] at hown5 ⊢; have D5 : Below NB w8 w9 := (Below.refl NB w8).grown hgrow5 n8 (fun k hk => (hown4'.lt k hk).1); have D6 : Below wc.heap.size wc w9 := ((D3.trans D4).trans D5).mono nW)
                          | fail)
                        have G0' := Lib.hid (G0.out.below D6 G0.out.lt)
                        have G1' := Lib.hid (G1.out.below D6 G1.out.lt)
                        have R1' := Lib.hid (R1.out.up D6)
                        have R2' := Lib.hid (R2.out.up D6)
                        have B' := Lib.hid (bvia B.out D6)
                        exact ⟨⟨k + 1, m + 1, A5, c5, HK1.out, by rw [Int.natCast_add]; rfl, rfl, HLE, HLN, by show World.ownsRow _ _ _ _ _ _ _; rw [HIN.out]; exact own_mono hown5 hNw, G0', G1', R1', R2', B'⟩, HMY.out⟩
          · obtain rfl : k = n2 := by omega
            have jk : ¬ (k : Int) < (k : Int) := by omega
            have HZ : Hid (La.outL ⟨a, b, c⟩ ⟨p, q, r⟩ PS QS i k = La.outL ⟨a, b, c⟩ ⟨p, q, r⟩ PS QS (i + 1) 0) := La.outL_next HX.out (by rw [HL2.out]; omega)
            clear hlt
            go_wp2
            exact ⟨⟨i + 1, m, A, cp, HI1.out, by rw [Int.natCast_add]; rfl, rfl, hm, by show _ = _; rw [← HZ.out]; exact HM.out, by show World.ownsRow _ _ _ _ _ _ _; rw [← HZ.out]; exact HO.out, G0, G1, R1, R2, B⟩, HMX.out⟩
      · obtain rfl : i = n1 := by omega
        have ji : ¬ (i : Int) < (i : Int) := by omega
        have HZ : Hid (La.outL ⟨a, b, c⟩ ⟨p, q, r⟩ PS QS i 0 = La.ldg ⟨a, b, c⟩ ⟨p, q, r⟩) := by show _ = _; rw [HG.out]; exact La.outL_full (by rw [HL1.out]; omega)
        clear hlt
        have HM2 : Hid (m = (La.ldg ⟨a, b, c⟩ ⟨p, q, r⟩).length) := by show _ = _; rw [← HZ.out]; exact HM.out
        have RO : Hid (wo.ownsRow w.heap.size 40 4 (.slice A m cp) m (msC (La.ldg ⟨a, b, c⟩ ⟨p, q, r⟩))) := by show World.ownsRow _ _ _ _ _ _ _; rw [← HZ.out]; exact HO.out
        go_wp2
        go_ret
        exact ⟨⟨A, cp, by rw [← HM2.out]; rfl, by rw [← HM2.out]; exact RO.out⟩, B.out⟩
theorem leadingC : LeadOK := fun a b c p q r w h hp _ hr hf =>
  (leadingO a b c p q r w h hp hr hf).mono fun _ _ ⟨⟨A, cp, he, ho⟩, hb⟩ => ⟨⟨A, cp, he, own_rdM4 ho⟩, hb⟩
end Go.Proofs.Ytmghpaibdgkbfaa
