/-
  Contract of chapter 6: the law's lead.
-/
import Derived.Test.YtmghpaibdgkbfaaVA5
import Derived.Test.YtmghpaibdgkbfaaVA8
import Derived.Test.YtmghpaibdgkbfaaVA9
import Derived.Test.YtmghpaibdgkbfaaVA10
import Derived.Deep.CutRange
namespace Go.Proofs.Ytmghpaibdgkbfaa
open Go.RowKit
set_option maxRecDepth 100000 in
set_option maxHeartbeats 1000000 in
theorem leadL (a b c p q r s : Int) (w : World) (ha : In6 10000 a) (hb : In6 10000 b) (hc : In6 10000 c) (hp : In6 2000000 p) (hq : In6 2000000 q) (hr : In6 2000000 r) (hs : In6 2000000 s) :
    Calls Try.prog 27 #[vL a b c, vM p q r s] w fun e w' => e = .returned (vL (prodL a b c p r p r) (prodL a b c p r q s) (prodL a b c q s q s)) ∧ Below w.heap.size w w' := by
  have CP := Lib.hid (fun W x y u v (hx : In6 2000000 x) (hy : In6 2000000 y) (hu : In6 2000000 u) (hv : In6 2000000 v) => rproductC a b c x y u v W ha hb hc hx hy hu hv)
  have G0 := Lib.hid (box_has [cL a b c, ([.int .i64 p, .int .i64 q, .int .i64 r, .int .i64 s], 40), ([.int .i64 0, .int .i64 0, .int .i64 0], 23)] (w := w) (Below.refl _ _) (i := 0) rfl)
  have G1 := Lib.hid (box_has [cL a b c, ([.int .i64 p, .int .i64 q, .int .i64 r, .int .i64 s], 40), ([.int .i64 0, .int .i64 0, .int .i64 0], 23)] (w := w) (Below.refl _ _) (i := 1) rfl)
  have G2 := Lib.hid (box_has [cL a b c, ([.int .i64 p, .int .i64 q, .int .i64 r, .int .i64 s], 40), ([.int .i64 0, .int .i64 0, .int .i64 0], 23)] (w := w) (Below.refl _ _) (i := 2) rfl)
  have S0 : Hid ((boxW w [cL a b c, ([.int .i64 p, .int .i64 q, .int .i64 r, .int .i64 s], 40), ([.int .i64 0, .int .i64 0, .int .i64 0], 23)]).heap.size = w.heap.size + 3) := boxW_size _ w
  have B0 := Lib.hid (boxW_below [cL a b c, ([.int .i64 p, .int .i64 q, .int .i64 r, .int .i64 s], 40), ([.int .i64 0, .int .i64 0, .int .i64 0], 23)] w)
  obtain ⟨W1, hW1⟩ : ∃ W1, W1 = boxW w [cL a b c, ([.int .i64 p, .int .i64 q, .int .i64 r, .int .i64 s], 40), ([.int .i64 0, .int .i64 0, .int .i64 0], 23)] := ⟨_, rfl⟩
  rw [← hW1] at G0 G1 G2 S0 B0
  go_enter Try.func27, Try.ntmps27
  go_wp2
  rw [show ((w.alloc (.cells #[.int .i64 a, .int .i64 b, .int .i64 c] 23)).alloc (.cells #[.int .i64 p, .int .i64 q, .int .i64 r, .int .i64 s] 40)).alloc (.cells #[.int .i64 0, .int .i64 0, .int .i64 0] 23) = W1 from hW1.symm]
  clear hW1
  refine wp_region_news [.q, .q, .q, .q, .q, .q, .q, .q, .q, .q, .mk 0, .mk 1, .st 0, .st 1]
      [⟨5, 11, none, 25, [.int .i64 0, .int .i64 0], [.int .i64 p, .int .i64 r], vP p r⟩, ⟨6, 16, none, 25, [.int .i64 0, .int .i64 0], [.int .i64 q, .int .i64 s], vP q s⟩] ?aH (by kernel_rfl) (by kernel_rfl) (by simp) (by simp) ?hq ?hv ?hA ?he
  case hq =>
    intro w3 h3
    have g1 := G1.out.below h3 G1.out.lt
    have x0 : w3.cell? ⟨w.heap.size + 1, 0, none⟩ = some (.int .i64 p) := g1.cell 0
    have x1 : w3.cell? ⟨w.heap.size + 1, 1, none⟩ = some (.int .i64 q) := g1.cell 1
    have x2 : w3.cell? ⟨w.heap.size + 1, 2, none⟩ = some (.int .i64 r) := g1.cell 2
    have x3 : w3.cell? ⟨w.heap.size + 1, 3, none⟩ = some (.int .i64 s) := g1.cell 3
    have q1 := g1.lt
    have hxc := fun (x : Ext w3) => x.cell
    clear g1
    show wpQuiet _ _ _ _ [_, _, _, _, _, _, _, _, _, _] _
    repeat (go_big_quiet_step ((go_at_call 29; exact ext_call (ptC _ _ _))))
    refine wpQuiet_nil ?_
    rfl
  case hv => simp
  case hA =>
    refine ⟨fun x hx => ?_, fun x hx => ?_, fun x hx => ?_, fun x hx => ?_, trivial⟩ <;> (obtain rfl := Option.some.inj hx)
    · exact fun b W => by go_simp
    · exact fun b W => by go_simp
    · exact stOk_agg rfl rfl (by kernel_rfl) rfl (by kernel_rfl)
    · exact stOk_agg rfl rfl (by kernel_rfl) rfl (by kernel_rfl)
  case he =>
    intro bs w3 hb3 hH hne
    obtain ⟨A, hA⟩ : ∃ A, A = bs 0 := ⟨_, rfl⟩
    obtain ⟨B, hBB⟩ : ∃ B, B = bs 1 := ⟨_, rfl⟩
    have H0 := hH 0 _ rfl
    have H1 := hH 1 _ rfl
    clear hH hne
    simp only [putN, Nat.zero_add, ← hA, ← hBB, Act.put, List.setIfInBounds_toArray, List.set_cons_zero, List.set_cons_succ] at H0 H1 ⊢
    clear hA hBB
    have K0 := Lib.hid (G0.out.below hb3 G0.out.lt)
    have K2 := Lib.hid (G2.out.below hb3 G2.out.lt)
    have z0 := K2.out.lt
    have z1 := G2.out.lt
    have n1 : A ≠ w.heap.size + 2 := by omega
    have n2 : B ≠ w.heap.size + 2 := by omega
    have U0 := Lib.hid H0.1
    have U1 := Lib.hid H1.1
    have B1 := Lib.hid (bvia B0.out hb3)
    clear H0 H1 hb3 G0 G1 G2 S0 B0 z1
    go_wp2
    refine wp_region_one [.q, .q, .q, .q, .q, .q, .q, .q, .q, .q, .q, .q, .q, .st 0] ⟨4, 29, some (w.heap.size + 2), 23, [.int .i64 0, .int .i64 0, .int .i64 0], [.int .i64 (prodL a b c p r p r), .int .i64 (prodL a b c p r q s), .int .i64 (prodL a b c q s q s)], vL (prodL a b c p r p r) (prodL a b c p r q s) (prodL a b c q s q s)⟩ (w.heap.size + 2) ?aH2 rfl (by kernel_rfl) (by kernel_rfl) rfl K2.out ?hq2 ?hv2 ?hA2 ?he2
    case hq2 =>
      intro w4 h4
      have k0 := h4.has K0.out (by simp)
      have u0 := h4.has U0.out (by simp [n1])
      have u1 := h4.has U1.out (by simp [n2])
      have x0 : w4.cell? ⟨w.heap.size, 0, none⟩ = some (.int .i64 a) := k0.cell 0
      have x1 : w4.cell? ⟨w.heap.size, 1, none⟩ = some (.int .i64 b) := k0.cell 1
      have x2 : w4.cell? ⟨w.heap.size, 2, none⟩ = some (.int .i64 c) := k0.cell 2
      have x3 : w4.cell? ⟨A, 0, none⟩ = some (.int .i64 p) := u0.cell 0
      have x4 : w4.cell? ⟨A, 1, none⟩ = some (.int .i64 r) := u0.cell 1
      have x5 : w4.cell? ⟨B, 0, none⟩ = some (.int .i64 q) := u1.cell 0
      have x6 : w4.cell? ⟨B, 1, none⟩ = some (.int .i64 s) := u1.cell 1
      have q0 : w.heap.size < w4.heap.size := k0.lt
      have q1 := u0.lt
      have q2 := u1.lt
      have hxc := fun (x : Ext w4) => x.cell
      clear k0 u0 u1 h4
      show wpQuiet _ _ _ _ [_, _, _, _, _, _, _, _, _, _, _, _, _] _
      repeat (go_big_quiet_step ((go_at_call 47; exact ext_call (CP.out _ _ _ _ _ (by assumption) (by assumption) (by assumption) (by assumption)))))
      refine wpQuiet_nil ?_
      rfl
    case hv2 => simp
    case hA2 =>
      refine ⟨fun x hx => ?_, trivial⟩
      obtain rfl := Option.some.inj hx
      exact stOk_agg rfl rfl (by kernel_rfl) rfl (by kernel_rfl)
    case he2 =>
      intro w4 h4 K4
      go_wp2
      refine post_cell K4 Try.results27 rfl rfl Try.underlying23 (by kernel_rfl) ⟨rfl, h4.below' (Nat.le_trans (Nat.le_add_right _ _) (Nat.le_of_lt z0)) (by simp) |> fun h => B1.out.trans h⟩
end Go.Proofs.Ytmghpaibdgkbfaa
/-
  Plain law of GridsReduced and GridsShortest.
-/
namespace Go.Proofs.Ytmghpaibdgkbfaa
theorem lst_mem : ∀ (l : List La.Mat) (m : La.Mat), lst m l = m ∨ lst m l ∈ l
  | [], m => .inl rfl
  | x :: l, m => by
    show lst (if ordI x m < 0 then x else m) l = m ∨ lst (if ordI x m < 0 then x else m) l ∈ x :: l
    split
    · rcases lst_mem l x with h | h
      · right; rw [h]; exact List.mem_cons_self ..
      · right; exact List.mem_cons_of_mem _ h
    · rcases lst_mem l m with h | h
      · left; exact h
      · right; exact List.mem_cons_of_mem _ h
theorem lstTo_mem {l : List La.Mat} (k : Nat) (h : 0 < l.length) : lstTo l k ∈ l := by
  cases l with
  | nil => simp at h
  | cons m r =>
    show lst m (r.take k) ∈ m :: r
    rcases lst_mem (r.take k) m with h | h
    · rw [h]; exact List.mem_cons_self ..
    · exact List.mem_cons_of_mem _ (List.mem_of_mem_take h)
theorem redM_st {l0 l : La.Lat} {m : La.Mat} (h : La.St l0 l m) : La.St l0 l (redM l m) := by
  have hm := lstTo_mem (l := (grp l 81).map (La.mul m)) ((grp l 81).length - 1) (by rw [List.length_map]; exact grp_pos l)
  obtain ⟨g, hg, e⟩ := List.mem_map.1 hm
  have hk := (grp_mem hg).2
  have hu := La.lead_unit h.v.d1 hk
  show La.St l0 l (lstTo ((grp l 81).map (La.mul m)) ((grp l 81).length - 1))
  rw [← e]
  exact ⟨by rw [La.lead_mul, h.e, hk], La.unit_mul h.u hu, h.v, h.ba, h.bc⟩
theorem red_same {l0 r other s : La.Lat} {by_ m m' : La.Mat} (h : La.St l0 r by_) (hr : La.Red r) (hm : La.unit m) (ho : other = La.lead l0 m) (h' : La.St other s m') (hs : La.Red s) : r = s := by
  refine La.red_uniq (m := La.mul (La.mul (La.inv by_) m) m') hr h.v.a1 hs h'.v.a1 (La.unit_mul (La.unit_mul (La.unit_inv h.u) hm) h'.u) ?_
  rw [La.lead_mul, La.lead_mul, La.lead_inv h.u h.e, ← ho, h'.e]
/-- in the reduced lattice's own numbers -/
theorem back_to {l0 r : La.Lat} {m : La.Mat} (h : La.St l0 r m) (x y : Int) : ∃ u v : Int, x = m.a * u + m.b * v ∧ y = m.c * u + m.d * v := by
  have hs := La.unit_sq h.u
  have hd : La.det m = m.a * m.d - m.b * m.c := rfl
  refine ⟨La.det m * (m.d * x - m.b * y), La.det m * (m.a * y - m.c * x), ?_, ?_⟩
  · have : m.a * (La.det m * (m.d * x - m.b * y)) + m.b * (La.det m * (m.a * y - m.c * x)) = La.det m * (m.a * m.d - m.b * m.c) * x := by grind
    rw [this, ← hd, hs]; omega
  · have : m.c * (La.det m * (m.d * x - m.b * y)) + m.d * (La.det m * (m.a * y - m.c * x)) = La.det m * (m.a * m.d - m.b * m.c) * y := by grind
    rw [this, ← hd, hs]; omega
theorem shortest {l0 r : La.Lat} {m : La.Mat} (h : La.St l0 r m) (hr : La.Red r) (x y : Int) : ((x ≠ 0 ∨ y ≠ 0) → r.a ≤ La.prod l0 x y x y) ∧ (x * m.c - y * m.a ≠ 0 → r.c ≤ La.prod l0 x y x y) := by
  obtain ⟨u, v, rfl, rfl⟩ := back_to h x y
  rw [← La.prod_lead, h.e]
  refine ⟨fun hn => La.red_a hr h.v.a1 ?_, fun hn => La.red_c hr h.v.a1 ?_⟩
  · refine Classical.byContradiction fun hh => ?_
    have hu : u = 0 := Classical.byContradiction fun h1 => hh (.inl h1)
    have hv : v = 0 := Classical.byContradiction fun h1 => hh (.inr h1)
    rw [hu, hv] at hn
    simp at hn
  · intro hv
    rw [hv] at hn
    apply hn
    grind
theorem tmod_small {x n : Int} (h : -n < x ∧ x < n) : x.tmod n = x := by
  rcases Int.le_total 0 x with h0 | h0
  · rw [Int.tmod_eq_emod_of_nonneg h0, Int.emod_eq_of_lt h0 h.2]
  · have : x = -(-x) := by omega
    rw [this, Int.neg_tmod, Int.tmod_eq_emod_of_nonneg (by omega), Int.emod_eq_of_lt (by omega) (by omega)]
theorem tmod_in (x : Int) {n : Int} (h : 0 < n) : -n < x.tmod n ∧ x.tmod n < n := by
  rcases Int.le_total 0 x with h0 | h0
  · rw [Int.tmod_eq_emod_of_nonneg h0]
    exact ⟨by have := Int.emod_nonneg x (show n ≠ 0 by omega); omega, Int.emod_lt_of_pos x h⟩
  · have e : x = -(-x) := by omega
    rw [e, Int.neg_tmod, Int.tmod_eq_emod_of_nonneg (by omega)]
    have h1 := Int.emod_nonneg (-x) (show n ≠ 0 by omega)
    have h2 := Int.emod_lt_of_pos (-x) h
    omega
theorem prodL_la (a b c x y u v : Int) : prodL a b c x y u v = La.prod ⟨a, b, c⟩ x y u v := by unfold prodL La.prod; grind
theorem redOk {l : La.Lat} {l0 : La.Lat} {m : La.Mat} (h : La.St l0 l m) : okL l.a l.b l.c = true := by
  rw [okL_iff]
  have hb := h.v.b_lt h.ba h.bc
  refine ⟨h.v.a1, h.v.c1, h.ba, h.bc, hb.1, hb.2, ?_⟩
  have := h.v.d1
  unfold La.ld at this
  omega
end Go.Proofs.Ytmghpaibdgkbfaa
/-
  The law GridsReduced.
-/
namespace Go.Proofs.Ytmghpaibdgkbfaa
open Go.RowKit
set_option maxRecDepth 100000 in
set_option maxHeartbeats 16000000 in
theorem reducedP (a b c p q r s : Int) (w : World) : Calls Try.prog 6 #[vL a b c, vM p q r s] w fun e w' => e = .returned (.bool true) ∧ Below w.heap.size w w' := by
  have CC := Lib.hid (fun W => checkC a b c W)
  cases h : okL a b c with
  | false =>
    rw [show errL a b c = 2 from if_neg (by rw [h]; decide)] at CC
    have CR := Lib.hid (fun W => reduceNC a b c W h)
    clear h
    have G0 : Hid (Has (boxW w [([.int .i64 a, .int .i64 b, .int .i64 c], 23), ([.int .i64 p, .int .i64 q, .int .i64 r, .int .i64 s], 40)]) (w.heap.size) 23 [.int .i64 a, .int .i64 b, .int .i64 c]) := box_has [([.int .i64 a, .int .i64 b, .int .i64 c], 23), ([.int .i64 p, .int .i64 q, .int .i64 r, .int .i64 s], 40)] (w := w) (Below.refl _ _) (i := 0) rfl
    have G1 : Hid (Has (boxW w [([.int .i64 a, .int .i64 b, .int .i64 c], 23), ([.int .i64 p, .int .i64 q, .int .i64 r, .int .i64 s], 40)]) (w.heap.size + 1) 40 [.int .i64 p, .int .i64 q, .int .i64 r, .int .i64 s]) := box_has [([.int .i64 a, .int .i64 b, .int .i64 c], 23), ([.int .i64 p, .int .i64 q, .int .i64 r, .int .i64 s], 40)] (w := w) (Below.refl _ _) (i := 1) rfl
    have B := Lib.hid (boxW_below [([.int .i64 a, .int .i64 b, .int .i64 c], 23), ([.int .i64 p, .int .i64 q, .int .i64 r, .int .i64 s], 40)] w)
    obtain ⟨W1, hW1⟩ : ∃ W1, W1 = boxW w [([.int .i64 a, .int .i64 b, .int .i64 c], 23), ([.int .i64 p, .int .i64 q, .int .i64 r, .int .i64 s], 40)] := ⟨_, rfl⟩
    rw [← hW1] at G0 G1 B
    go_enter Try.func6, Try.ntmps6
    go_upto_region 1 with (fail)
    rw [show (w.alloc (.cells #[.int .i64 a, .int .i64 b, .int .i64 c] 23)).alloc (.cells #[.int .i64 p, .int .i64 q, .int .i64 r, .int .i64 s] 40) = W1 from hW1.symm]
    clear hW1
    have cG00 : W1.cell? ⟨w.heap.size, 0, none⟩ = some (.int .i64 a) := G0.out.cell 0
    have cG01 : W1.cell? ⟨w.heap.size, 1, none⟩ = some (.int .i64 b) := G0.out.cell 1
    have cG02 : W1.cell? ⟨w.heap.size, 2, none⟩ = some (.int .i64 c) := G0.out.cell 2
    have cG10 : W1.cell? ⟨w.heap.size + 1, 0, none⟩ = some (.int .i64 p) := G1.out.cell 0
    have cG11 : W1.cell? ⟨w.heap.size + 1, 1, none⟩ = some (.int .i64 q) := G1.out.cell 1
    have cG12 : W1.cell? ⟨w.heap.size + 1, 2, none⟩ = some (.int .i64 r) := G1.out.cell 2
    have cG13 : W1.cell? ⟨w.heap.size + 1, 3, none⟩ = some (.int .i64 s) := G1.out.cell 3
    go_wp2_with fail
    refine (CR.out _).mono ?_
    rintro e w1 ⟨rfl, hb1⟩
    clear cG00 cG01 cG02 cG10 cG11 cG12 cG13
    replace G0 := Lib.hid (G0.out.below hb1 G0.out.lt)
    replace G1 := Lib.hid (G1.out.below hb1 G1.out.lt)
    replace B := Lib.hid (bvia B.out hb1)
    clear hb1
    have lG0G5 : w.heap.size < w1.heap.size := G0.out.lt
    have lG1G5 : w.heap.size + 1 < w1.heap.size := G1.out.lt
    go_upto_region 2 with (fail)
    have D1 := Lib.hid ((Below.refl w1.heap.size w1).alloc (Nat.le_refl _) (.cells #[.int .i64 0, .int .i64 0, .int .i64 0] 23))
    replace D1 := Lib.hid (D1.out.alloc (by simp) (.cells #[.int .i64 0, .int .i64 0, .int .i64 0, .int .i64 0] 40))
    have G5 : Hid (Has ((w1.alloc (.cells #[.int .i64 0, .int .i64 0, .int .i64 0] 23)).alloc (.cells #[.int .i64 0, .int .i64 0, .int .i64 0, .int .i64 0] 40)) w1.heap.size 23 [.int .i64 0, .int .i64 0, .int .i64 0]) := Has.alloc (Has.new rfl) _
    have G6 : Hid (Has ((w1.alloc (.cells #[.int .i64 0, .int .i64 0, .int .i64 0] 23)).alloc (.cells #[.int .i64 0, .int .i64 0, .int .i64 0, .int .i64 0] 40)) (w1.heap.size + 1) 40 [.int .i64 0, .int .i64 0, .int .i64 0, .int .i64 0]) := Has.new2 rfl
    replace G0 := Lib.hid (G0.out.below D1.out G0.out.lt)
    replace G1 := Lib.hid (G1.out.below D1.out G1.out.lt)
    replace B := Lib.hid (bvia B.out D1.out)
    clear D1
    generalize (w1.alloc (.cells #[.int .i64 0, .int .i64 0, .int .i64 0] 23)).alloc (.cells #[.int .i64 0, .int .i64 0, .int .i64 0, .int .i64 0] 40) = V2 at *
    generalize w1.heap.size = KG5 at *
    have cG00 : V2.cell? ⟨w.heap.size, 0, none⟩ = some (.int .i64 a) := G0.out.cell 0
    have cG01 : V2.cell? ⟨w.heap.size, 1, none⟩ = some (.int .i64 b) := G0.out.cell 1
    have cG02 : V2.cell? ⟨w.heap.size, 2, none⟩ = some (.int .i64 c) := G0.out.cell 2
    go_wp2_with fail
    refine (CC.out _).mono ?_
    rintro e w3 ⟨rfl, hb3⟩
    clear cG00 cG01 cG02
    replace G0 := Lib.hid (G0.out.below hb3 G0.out.lt)
    replace G1 := Lib.hid (G1.out.below hb3 G1.out.lt)
    replace G5 := Lib.hid (G5.out.below hb3 G5.out.lt)
    replace G6 := Lib.hid (G6.out.below hb3 G6.out.lt)
    replace B := Lib.hid (bvia B.out hb3)
    clear hb3
    go_wp2_with fail
    go_wp2_with fail
    refine (awakeC _).mono ?_
    rintro e w4 ⟨rfl, hb4⟩
    replace G0 := Lib.hid (G0.out.below hb4 G0.out.lt)
    replace G1 := Lib.hid (G1.out.below hb4 G1.out.lt)
    replace G5 := Lib.hid (G5.out.below hb4 G5.out.lt)
    replace G6 := Lib.hid (G6.out.below hb4 G6.out.lt)
    replace B := Lib.hid (bvia B.out hb4)
    clear hb4
    go_wp2
    go_ret
    exact ⟨rfl, B.out⟩
  | true =>
    have HOK := Lib.hid (okL_val h)
    have CR := Lib.hid (fun W => reduceTC a b c W h)
    have hl := (okL_iff a b c).1 h
    have t1 := tmod_in p (show (0 : Int) < 4 by decide)
    have t2 := tmod_in q (show (0 : Int) < 4 by decide)
    have t3 := tmod_in r (show (0 : Int) < 4 by decide)
    have t4 := tmod_in s (show (0 : Int) < 4 by decide)
    clear h CC
    have G0 : Hid (Has (boxW w [([.int .i64 a, .int .i64 b, .int .i64 c], 23), ([.int .i64 p, .int .i64 q, .int .i64 r, .int .i64 s], 40)]) (w.heap.size) 23 [.int .i64 a, .int .i64 b, .int .i64 c]) := box_has [([.int .i64 a, .int .i64 b, .int .i64 c], 23), ([.int .i64 p, .int .i64 q, .int .i64 r, .int .i64 s], 40)] (w := w) (Below.refl _ _) (i := 0) rfl
    have G1 : Hid (Has (boxW w [([.int .i64 a, .int .i64 b, .int .i64 c], 23), ([.int .i64 p, .int .i64 q, .int .i64 r, .int .i64 s], 40)]) (w.heap.size + 1) 40 [.int .i64 p, .int .i64 q, .int .i64 r, .int .i64 s]) := box_has [([.int .i64 a, .int .i64 b, .int .i64 c], 23), ([.int .i64 p, .int .i64 q, .int .i64 r, .int .i64 s], 40)] (w := w) (Below.refl _ _) (i := 1) rfl
    have B := Lib.hid (boxW_below [([.int .i64 a, .int .i64 b, .int .i64 c], 23), ([.int .i64 p, .int .i64 q, .int .i64 r, .int .i64 s], 40)] w)
    obtain ⟨W1, hW1⟩ : ∃ W1, W1 = boxW w [([.int .i64 a, .int .i64 b, .int .i64 c], 23), ([.int .i64 p, .int .i64 q, .int .i64 r, .int .i64 s], 40)] := ⟨_, rfl⟩
    rw [← hW1] at G0 G1 B
    go_enter Try.func6, Try.ntmps6
    go_upto_region 1 with (fail)
    rw [show (w.alloc (.cells #[.int .i64 a, .int .i64 b, .int .i64 c] 23)).alloc (.cells #[.int .i64 p, .int .i64 q, .int .i64 r, .int .i64 s] 40) = W1 from hW1.symm]
    clear hW1
    have cG00 : W1.cell? ⟨w.heap.size, 0, none⟩ = some (.int .i64 a) := G0.out.cell 0
    have cG01 : W1.cell? ⟨w.heap.size, 1, none⟩ = some (.int .i64 b) := G0.out.cell 1
    have cG02 : W1.cell? ⟨w.heap.size, 2, none⟩ = some (.int .i64 c) := G0.out.cell 2
    have cG10 : W1.cell? ⟨w.heap.size + 1, 0, none⟩ = some (.int .i64 p) := G1.out.cell 0
    have cG11 : W1.cell? ⟨w.heap.size + 1, 1, none⟩ = some (.int .i64 q) := G1.out.cell 1
    have cG12 : W1.cell? ⟨w.heap.size + 1, 2, none⟩ = some (.int .i64 r) := G1.out.cell 2
    have cG13 : W1.cell? ⟨w.heap.size + 1, 3, none⟩ = some (.int .i64 s) := G1.out.cell 3
    go_wp2_with fail
    refine (CR.out _).mono ?_
    rintro e w1 ⟨⟨l, m0, ST, RD, rfl⟩, hb1⟩
    clear cG00 cG01 cG02 cG10 cG11 cG12 cG13
    replace G0 := Lib.hid (G0.out.below hb1 G0.out.lt)
    replace G1 := Lib.hid (G1.out.below hb1 G1.out.lt)
    replace B := Lib.hid (bvia B.out hb1)
    clear hb1
    have STM := Lib.hid (redM_st ST)
    have HRD := Lib.hid RD
    clear ST RD
    generalize redM l m0 = M at *
    have hF := STM.out.fit HOK.out.1 HOK.out.2.1 HOK.out.2.2
    obtain ⟨⟨fa, fc⟩, ⟨fb, fd⟩⟩ := hF
    have C1 : Hid (∀ W : World, Calls Try.prog 17 #[vL l.a l.b l.c] W fun e w' => e = .returned (.int .i64 0) ∧ Below W.heap.size W w') := fun W => by have := checkC l.a l.b l.c W; rw [show errL l.a l.b l.c = 0 from if_pos (redOk STM.out)] at this; exact this
    have C2 : Hid (∀ W : World, Calls Try.prog 26 #[vM M.a M.b M.c M.d] W fun e w' => e = .returned (.bool true) ∧ Below W.heap.size W w') := fun W => by have := rmatrixC M.a M.b M.c M.d W; rw [show okM M.a M.b M.c M.d = true from (okM_iff ..).2 ⟨fa, fb, fc, fd⟩] at this; exact this
    have C3 : Hid (∀ W : World, Calls Try.prog 27 #[vL a b c, vM M.a M.b M.c M.d] W fun e w' => e = .returned (vL l.a l.b l.c) ∧ Below W.heap.size W w') := fun W => by
      have := leadL a b c M.a M.b M.c M.d W ⟨by omega, by omega⟩ ⟨by omega, by omega⟩ ⟨by omega, by omega⟩ ⟨by omega, by omega⟩ ⟨by omega, by omega⟩ ⟨by omega, by omega⟩ ⟨by omega, by omega⟩
      have e := (lead_eq a b c M.a M.b M.c M.d).symm.trans STM.out.e
      have e1 := congrArg La.Lat.a e
      have e2 := congrArg La.Lat.b e
      have e3 := congrArg La.Lat.c e
      simp only at e1 e2 e3
      rw [e1, e2, e3] at this
      exact this
    have hb0 := HRD.out.b0
    have hba := HRD.out.ba
    have hac := HRD.out.ac
    have hla := STM.out.v.a1
    have hla2 := STM.out.ba
    have j1 : decide (l.b < 0) = false := decide_eq_false (by omega)
    have j2 : decide (l.a < 2 * l.b) = false := decide_eq_false (by omega)
    have j3 : decide (l.c < l.a) = false := decide_eq_false (by omega)
    have i1 : IntKind.i64.wrap (2 * l.b) = 2 * l.b := IntWalk.i64_in _ (by omega)
    have hq : ∀ W, (Op.equalIn 10000 23 (vL l.a l.b l.c) (vL l.a l.b l.c)).run Try.prog W = .ok true W := fun W => by have := eqLat l.a l.b l.c l.a l.b l.c W; rw [show sameL l.a l.b l.c l.a l.b l.c = true by unfold sameL; simp] at this; exact this
    have m1 := mb 10000 10000 100000000 fa fd (by decide)
    have m2 := mb 10000 10000 100000000 fb fc (by decide)
    have i2 : IntKind.i64.wrap (M.a * M.d) = M.a * M.d := IntWalk.i64_in _ (by omega)
    have i3 : IntKind.i64.wrap (M.b * M.c) = M.b * M.c := IntWalk.i64_in _ (by omega)
    have i4 : IntKind.i64.wrap (M.a * M.d - M.b * M.c) = M.a * M.d - M.b * M.c := IntWalk.i64_in _ (by omega)
    have HU : Hid (M.a * M.d - M.b * M.c = 1 ∨ M.a * M.d - M.b * M.c = -1) := STM.out.u
    have e1 : IntKind.i64.wrap (p.tmod 4 * s.tmod 4) = p.tmod 4 * s.tmod 4 := IntWalk.i64_in _ (by have := mb 3 3 9 (show In6 3 (p.tmod 4) from ⟨by omega, by omega⟩) (show In6 3 (s.tmod 4) from ⟨by omega, by omega⟩) (by decide); omega)
    have e2 : IntKind.i64.wrap (q.tmod 4 * r.tmod 4) = q.tmod 4 * r.tmod 4 := IntWalk.i64_in _ (by have := mb 3 3 9 (show In6 3 (q.tmod 4) from ⟨by omega, by omega⟩) (show In6 3 (r.tmod 4) from ⟨by omega, by omega⟩) (by decide); omega)
    have e3 : IntKind.i64.wrap (p.tmod 4 * s.tmod 4 - q.tmod 4 * r.tmod 4) = p.tmod 4 * s.tmod 4 - q.tmod 4 * r.tmod 4 := IntWalk.i64_in _ (by have h1 := mb 3 3 9 (show In6 3 (p.tmod 4) from ⟨by omega, by omega⟩) (show In6 3 (s.tmod 4) from ⟨by omega, by omega⟩) (by decide); have h2 := mb 3 3 9 (show In6 3 (q.tmod 4) from ⟨by omega, by omega⟩) (show In6 3 (r.tmod 4) from ⟨by omega, by omega⟩) (by decide); omega)
    have CL := Lib.hid (fun W => leadL a b c (p.tmod 4) (q.tmod 4) (r.tmod 4) (s.tmod 4) W ⟨by omega, by omega⟩ ⟨by omega, by omega⟩ ⟨by omega, by omega⟩ ⟨by omega, by omega⟩ ⟨by omega, by omega⟩ ⟨by omega, by omega⟩ ⟨by omega, by omega⟩)
    have HLE := Lib.hid (lead_eq a b c (p.tmod 4) (q.tmod 4) (r.tmod 4) (s.tmod 4))
    clear m1 m2 fa fb fc fd hb0 hba hac hla hla2 t1 t2 t3 t4 hl
    have lG0G5 : w.heap.size < w1.heap.size := G0.out.lt
    have lG1G5 : w.heap.size + 1 < w1.heap.size := G1.out.lt
    go_upto_region 2 with (fail)
    have D1 := Lib.hid ((Below.refl w1.heap.size w1).alloc (Nat.le_refl _) (.cells #[.int .i64 l.a, .int .i64 l.b, .int .i64 l.c] 23))
    replace D1 := Lib.hid (D1.out.alloc (by simp) (.cells #[.int .i64 M.a, .int .i64 M.b, .int .i64 M.c, .int .i64 M.d] 40))
    have G5 : Hid (Has ((w1.alloc (.cells #[.int .i64 l.a, .int .i64 l.b, .int .i64 l.c] 23)).alloc (.cells #[.int .i64 M.a, .int .i64 M.b, .int .i64 M.c, .int .i64 M.d] 40)) w1.heap.size 23 [.int .i64 l.a, .int .i64 l.b, .int .i64 l.c]) := Has.alloc (Has.new rfl) _
    have G6 : Hid (Has ((w1.alloc (.cells #[.int .i64 l.a, .int .i64 l.b, .int .i64 l.c] 23)).alloc (.cells #[.int .i64 M.a, .int .i64 M.b, .int .i64 M.c, .int .i64 M.d] 40)) (w1.heap.size + 1) 40 [.int .i64 M.a, .int .i64 M.b, .int .i64 M.c, .int .i64 M.d]) := Has.new2 rfl
    replace G0 := Lib.hid (G0.out.below D1.out G0.out.lt)
    replace G1 := Lib.hid (G1.out.below D1.out G1.out.lt)
    replace B := Lib.hid (bvia B.out D1.out)
    clear D1
    generalize (w1.alloc (.cells #[.int .i64 l.a, .int .i64 l.b, .int .i64 l.c] 23)).alloc (.cells #[.int .i64 M.a, .int .i64 M.b, .int .i64 M.c, .int .i64 M.d] 40) = V2 at *
    generalize w1.heap.size = KG5 at *
    go_upto_region 4 with (fail)
    have cG00 : V2.cell? ⟨w.heap.size, 0, none⟩ = some (.int .i64 a) := G0.out.cell 0
    have cG01 : V2.cell? ⟨w.heap.size, 1, none⟩ = some (.int .i64 b) := G0.out.cell 1
    have cG02 : V2.cell? ⟨w.heap.size, 2, none⟩ = some (.int .i64 c) := G0.out.cell 2
    have cG10 : V2.cell? ⟨w.heap.size + 1, 0, none⟩ = some (.int .i64 p) := G1.out.cell 0
    have cG11 : V2.cell? ⟨w.heap.size + 1, 1, none⟩ = some (.int .i64 q) := G1.out.cell 1
    have cG12 : V2.cell? ⟨w.heap.size + 1, 2, none⟩ = some (.int .i64 r) := G1.out.cell 2
    have cG13 : V2.cell? ⟨w.heap.size + 1, 3, none⟩ = some (.int .i64 s) := G1.out.cell 3
    have cG50 : V2.cell? ⟨KG5, 0, none⟩ = some (.int .i64 l.a) := G5.out.cell 0
    have cG51 : V2.cell? ⟨KG5, 1, none⟩ = some (.int .i64 l.b) := G5.out.cell 1
    have cG52 : V2.cell? ⟨KG5, 2, none⟩ = some (.int .i64 l.c) := G5.out.cell 2
    have cG60 : V2.cell? ⟨KG5 + 1, 0, none⟩ = some (.int .i64 M.a) := G6.out.cell 0
    have cG61 : V2.cell? ⟨KG5 + 1, 1, none⟩ = some (.int .i64 M.b) := G6.out.cell 1
    have cG62 : V2.cell? ⟨KG5 + 1, 2, none⟩ = some (.int .i64 M.c) := G6.out.cell 2
    have cG63 : V2.cell? ⟨KG5 + 1, 3, none⟩ = some (.int .i64 M.d) := G6.out.cell 3
    have qG0 : w.heap.size < V2.heap.size := G0.out.lt
    have qG1 : w.heap.size + 1 < V2.heap.size := G1.out.lt
    have qG5 : KG5 < V2.heap.size := G5.out.lt
    have qG6 : KG5 + 1 < V2.heap.size := G6.out.lt
    have hxc := fun (x : Ext V2) => x.cell
    refine wp_region_ext (by kernel_rfl) (by kernel_rfl) ?_
    repeat (go_big_quiet_step ((first | (go_at_call 17; exact ext_call (C1.out _)) | (go_at_call 26; exact ext_call (C2.out _)) | (go_at_call 27; exact ext_call (C3.out _)))))
    refine wpQuiet_nil ?_
    intro w3 hw'
    have hb3 := ext_below hw'
    clear hw'
    clear cG00 cG01 cG02 cG10 cG11 cG12 cG13 cG50 cG51 cG52 cG60 cG61 cG62 cG63 qG0 qG1 qG5 qG6 hxc
    replace G0 := Lib.hid (G0.out.below hb3 G0.out.lt)
    replace G1 := Lib.hid (G1.out.below hb3 G1.out.lt)
    replace G5 := Lib.hid (G5.out.below hb3 G5.out.lt)
    replace G6 := Lib.hid (G6.out.below hb3 G6.out.lt)
    replace B := Lib.hid (bvia B.out hb3)
    clear hb3
    have cG60 : w3.cell? ⟨KG5 + 1, 0, none⟩ = some (.int .i64 M.a) := G6.out.cell 0
    have cG61 : w3.cell? ⟨KG5 + 1, 1, none⟩ = some (.int .i64 M.b) := G6.out.cell 1
    have cG62 : w3.cell? ⟨KG5 + 1, 2, none⟩ = some (.int .i64 M.c) := G6.out.cell 2
    have cG63 : w3.cell? ⟨KG5 + 1, 3, none⟩ = some (.int .i64 M.d) := G6.out.cell 3
    go_upto_region 7 with (fail)
    go_cut [78] from 79 (fun zz wx => zz = .bool false ∧ wx = w3)
    case first =>
      rcases HU.out with hu | hu
      · have k1 : (M.a * M.d - M.b * M.c != 1) = false := by rw [hu]; rfl
        clear hu
        go_wp2
        go_meet
        case rel => exact ⟨rfl, rfl⟩
      · have k1 : (M.a * M.d - M.b * M.c != 1) = true := by rw [hu]; rfl
        have k2 : (M.a * M.d - M.b * M.c != -1) = false := by rw [hu]; rfl
        clear hu
        go_wp2
        go_meet
        case rel => exact ⟨rfl, rfl⟩
    case rest =>
      obtain ⟨hz, rfl⟩ := hcut
      subst hz
      clear C1 C2 C3 j1 j2 j3 i1 i2 i3 i4
      clear cG60 cG61 cG62 cG63
      have cG10 : wc.cell? ⟨w.heap.size + 1, 0, none⟩ = some (.int .i64 p) := G1.out.cell 0
      have cG11 : wc.cell? ⟨w.heap.size + 1, 1, none⟩ = some (.int .i64 q) := G1.out.cell 1
      have cG12 : wc.cell? ⟨w.heap.size + 1, 2, none⟩ = some (.int .i64 r) := G1.out.cell 2
      have cG13 : wc.cell? ⟨w.heap.size + 1, 3, none⟩ = some (.int .i64 s) := G1.out.cell 3
      go_upto_region 9 with (fail)
      go_wp2_with fail
      refine (matC _ _ _ _ _).mono ?_
      rintro e w4 ⟨rfl, hb4⟩
      clear cG10 cG11 cG12 cG13
      replace G0 := Lib.hid (G0.out.below hb4 G0.out.lt)
      replace G1 := Lib.hid (G1.out.below hb4 G1.out.lt)
      replace G5 := Lib.hid (G5.out.below hb4 G5.out.lt)
      replace G6 := Lib.hid (G6.out.below hb4 G6.out.lt)
      replace B := Lib.hid (bvia B.out hb4)
      clear hb4
      have cG10 : w4.cell? ⟨w.heap.size + 1, 0, none⟩ = some (.int .i64 p) := G1.out.cell 0
      have fG10 : w4.frozen? ⟨w.heap.size + 1, 0, none⟩ = false := G1.out.free 0
      have cG11 : w4.cell? ⟨w.heap.size + 1, 1, none⟩ = some (.int .i64 q) := G1.out.cell 1
      have fG11 : w4.frozen? ⟨w.heap.size + 1, 1, none⟩ = false := G1.out.free 1
      have cG12 : w4.cell? ⟨w.heap.size + 1, 2, none⟩ = some (.int .i64 r) := G1.out.cell 2
      have fG12 : w4.frozen? ⟨w.heap.size + 1, 2, none⟩ = false := G1.out.free 2
      have cG13 : w4.cell? ⟨w.heap.size + 1, 3, none⟩ = some (.int .i64 s) := G1.out.cell 3
      have fG13 : w4.frozen? ⟨w.heap.size + 1, 3, none⟩ = false := G1.out.free 3
      go_upto_region 10 with (fail)
      clear cG10 fG10 cG11 fG11 cG12 fG12 cG13 fG13
      have hbG1 : w.heap.size ≤ w.heap.size + 1 := by omega
      replace G1 : Hid (Has ((((w4.setCell ⟨w.heap.size + 1, 0, none⟩ (.int .i64 (p.tmod 4))).setCell ⟨w.heap.size + 1, 1, none⟩ (.int .i64 (q.tmod 4))).setCell ⟨w.heap.size + 1, 2, none⟩ (.int .i64 (r.tmod 4))).setCell ⟨w.heap.size + 1, 3, none⟩ (.int .i64 (s.tmod 4))) (w.heap.size + 1) 40 [.int .i64 (p.tmod 4), .int .i64 (q.tmod 4), .int .i64 (r.tmod 4), .int .i64 (s.tmod 4)]) := ((((G1.out.set 0 (.int .i64 (p.tmod 4))).set 1 (.int .i64 (q.tmod 4))).set 2 (.int .i64 (r.tmod 4))).set 3 (.int .i64 (s.tmod 4)))
      replace G0 : Hid (Has ((((w4.setCell ⟨w.heap.size + 1, 0, none⟩ (.int .i64 (p.tmod 4))).setCell ⟨w.heap.size + 1, 1, none⟩ (.int .i64 (q.tmod 4))).setCell ⟨w.heap.size + 1, 2, none⟩ (.int .i64 (r.tmod 4))).setCell ⟨w.heap.size + 1, 3, none⟩ (.int .i64 (s.tmod 4))) (w.heap.size) 23 [.int .i64 a, .int .i64 b, .int .i64 c]) := ((((G0.out.far (by omega) 0 _).far (by omega) 1 _).far (by omega) 2 _).far (by omega) 3 _)
      replace G5 : Hid (Has ((((w4.setCell ⟨w.heap.size + 1, 0, none⟩ (.int .i64 (p.tmod 4))).setCell ⟨w.heap.size + 1, 1, none⟩ (.int .i64 (q.tmod 4))).setCell ⟨w.heap.size + 1, 2, none⟩ (.int .i64 (r.tmod 4))).setCell ⟨w.heap.size + 1, 3, none⟩ (.int .i64 (s.tmod 4))) (KG5) 23 [.int .i64 l.a, .int .i64 l.b, .int .i64 l.c]) := ((((G5.out.far (by omega) 0 _).far (by omega) 1 _).far (by omega) 2 _).far (by omega) 3 _)
      replace G6 : Hid (Has ((((w4.setCell ⟨w.heap.size + 1, 0, none⟩ (.int .i64 (p.tmod 4))).setCell ⟨w.heap.size + 1, 1, none⟩ (.int .i64 (q.tmod 4))).setCell ⟨w.heap.size + 1, 2, none⟩ (.int .i64 (r.tmod 4))).setCell ⟨w.heap.size + 1, 3, none⟩ (.int .i64 (s.tmod 4))) (KG5 + 1) 40 [.int .i64 M.a, .int .i64 M.b, .int .i64 M.c, .int .i64 M.d]) := ((((G6.out.far (by omega) 0 _).far (by omega) 1 _).far (by omega) 2 _).far (by omega) 3 _)
      replace B := Lib.hid ((((B.out.setCell (p := ⟨w.heap.size + 1, 0, none⟩) hbG1 (.int .i64 (p.tmod 4))).setCell (p := ⟨w.heap.size + 1, 1, none⟩) hbG1 (.int .i64 (q.tmod 4))).setCell (p := ⟨w.heap.size + 1, 2, none⟩) hbG1 (.int .i64 (r.tmod 4))).setCell (p := ⟨w.heap.size + 1, 3, none⟩) hbG1 (.int .i64 (s.tmod 4)))
      generalize (((w4.setCell ⟨w.heap.size + 1, 0, none⟩ (.int .i64 (p.tmod 4))).setCell ⟨w.heap.size + 1, 1, none⟩ (.int .i64 (q.tmod 4))).setCell ⟨w.heap.size + 1, 2, none⟩ (.int .i64 (r.tmod 4))).setCell ⟨w.heap.size + 1, 3, none⟩ (.int .i64 (s.tmod 4)) = V5 at *
      have cG00 : V5.cell? ⟨w.heap.size, 0, none⟩ = some (.int .i64 a) := G0.out.cell 0
      have cG01 : V5.cell? ⟨w.heap.size, 1, none⟩ = some (.int .i64 b) := G0.out.cell 1
      have cG02 : V5.cell? ⟨w.heap.size, 2, none⟩ = some (.int .i64 c) := G0.out.cell 2
      have cG10 : V5.cell? ⟨w.heap.size + 1, 0, none⟩ = some (.int .i64 (p.tmod 4)) := G1.out.cell 0
      have cG11 : V5.cell? ⟨w.heap.size + 1, 1, none⟩ = some (.int .i64 (q.tmod 4)) := G1.out.cell 1
      have cG12 : V5.cell? ⟨w.heap.size + 1, 2, none⟩ = some (.int .i64 (r.tmod 4)) := G1.out.cell 2
      have cG13 : V5.cell? ⟨w.heap.size + 1, 3, none⟩ = some (.int .i64 (s.tmod 4)) := G1.out.cell 3
      generalize p.tmod 4 = p1, q.tmod 4 = q1, r.tmod 4 = r1, s.tmod 4 = s1 at *
      go_wp2_with fail
      refine (CL.out _).mono ?_
      rintro e w6 ⟨rfl, hb6⟩
      clear cG00 cG01 cG02 cG10 cG11 cG12 cG13
      replace G0 := Lib.hid (G0.out.below hb6 G0.out.lt)
      replace G1 := Lib.hid (G1.out.below hb6 G1.out.lt)
      replace G5 := Lib.hid (G5.out.below hb6 G5.out.lt)
      replace G6 := Lib.hid (G6.out.below hb6 G6.out.lt)
      replace B := Lib.hid (bvia B.out hb6)
      clear hb6
      generalize prodL a b c p1 r1 p1 r1 = X, prodL a b c p1 r1 q1 s1 = Y, prodL a b c q1 s1 q1 s1 = Z at *
      have lG0G9 : w.heap.size < w6.heap.size := G0.out.lt
      have lG1G9 : w.heap.size + 1 < w6.heap.size := G1.out.lt
      have lG5G9 : KG5 < w6.heap.size := G5.out.lt
      have lG6G9 : KG5 + 1 < w6.heap.size := G6.out.lt
      go_upto_region 12 with (fail)
      have D1 := Lib.hid ((Below.refl w6.heap.size w6).alloc (Nat.le_refl _) (.cells #[.int .i64 X, .int .i64 Y, .int .i64 Z] 23))
      have G9 : Hid (Has (w6.alloc (.cells #[.int .i64 X, .int .i64 Y, .int .i64 Z] 23)) w6.heap.size 23 [.int .i64 X, .int .i64 Y, .int .i64 Z]) := Has.new rfl
      replace G0 := Lib.hid (G0.out.below D1.out G0.out.lt)
      replace G1 := Lib.hid (G1.out.below D1.out G1.out.lt)
      replace G5 := Lib.hid (G5.out.below D1.out G5.out.lt)
      replace G6 := Lib.hid (G6.out.below D1.out G6.out.lt)
      replace B := Lib.hid (bvia B.out D1.out)
      clear D1
      generalize w6.alloc (.cells #[.int .i64 X, .int .i64 Y, .int .i64 Z] 23) = V7 at *
      generalize w6.heap.size = KG9 at *
      have CO := Lib.hid (fun W => checkC X Y Z W)
      obtain ⟨E, hE⟩ : ∃ E, E = p1 * s1 - q1 * r1 := ⟨_, rfl⟩
      have HE := Lib.hid hE
      rw [← hE]
      clear hE e1 e2 e3
      have cG90 : V7.cell? ⟨KG9, 0, none⟩ = some (.int .i64 X) := G9.out.cell 0
      have cG91 : V7.cell? ⟨KG9, 1, none⟩ = some (.int .i64 Y) := G9.out.cell 1
      have cG92 : V7.cell? ⟨KG9, 2, none⟩ = some (.int .i64 Z) := G9.out.cell 2
      have cG50 : V7.cell? ⟨KG5, 0, none⟩ = some (.int .i64 l.a) := G5.out.cell 0
      have cG51 : V7.cell? ⟨KG5, 1, none⟩ = some (.int .i64 l.b) := G5.out.cell 1
      have cG52 : V7.cell? ⟨KG5, 2, none⟩ = some (.int .i64 l.c) := G5.out.cell 2
      by_cases hun : E = 1 ∨ E = -1
      case neg =>
        have k1 : (E != 1) = true := bne_iff_ne.2 (fun h => hun (.inl h))
        have k2 : (E != -1) = true := bne_iff_ne.2 (fun h => hun (.inr h))
        clear hun
        go_wp2_with fail
        go_wp2_with fail
        refine (awakeC _).mono ?_
        rintro e w8 ⟨rfl, hb8⟩
        clear cG90 cG91 cG92 cG50 cG51 cG52
        replace G0 := Lib.hid (G0.out.below hb8 G0.out.lt)
        replace G1 := Lib.hid (G1.out.below hb8 G1.out.lt)
        replace G5 := Lib.hid (G5.out.below hb8 G5.out.lt)
        replace G6 := Lib.hid (G6.out.below hb8 G6.out.lt)
        replace G9 := Lib.hid (G9.out.below hb8 G9.out.lt)
        replace B := Lib.hid (bvia B.out hb8)
        clear hb8
        go_wp2
        go_ret
        exact ⟨rfl, B.out⟩
      have HUM : Hid (La.unit ⟨p1, q1, r1, s1⟩) := by show _ ∨ _; rw [show La.det ⟨p1, q1, r1, s1⟩ = p1 * s1 - q1 * r1 from rfl, ← HE.out]; exact hun
      have hor : (E != 1) = false ∨ ((E != 1) = true ∧ (E != -1) = false) := by
        rcases hun with h | h
        · left; rw [h]; rfl
        · right; rw [h]; exact ⟨rfl, rfl⟩
      clear hun
      cases hO : okL X Y Z with
      | false =>
        rw [show errL X Y Z = 2 from if_neg (by rw [hO]; decide)] at CO
        clear hO
        rcases hor with k1 | ⟨k1, k2⟩
        · go_wp2_with fail
          go_wp2_with fail
          refine (CO.out _).mono ?_
          rintro e w8 ⟨rfl, hb8⟩
          clear cG90 cG91 cG92 cG50 cG51 cG52
          replace G0 := Lib.hid (G0.out.below hb8 G0.out.lt)
          replace G1 := Lib.hid (G1.out.below hb8 G1.out.lt)
          replace G5 := Lib.hid (G5.out.below hb8 G5.out.lt)
          replace G6 := Lib.hid (G6.out.below hb8 G6.out.lt)
          replace G9 := Lib.hid (G9.out.below hb8 G9.out.lt)
          replace B := Lib.hid (bvia B.out hb8)
          clear hb8
          go_wp2_with fail
          go_wp2_with fail
          refine (awakeC _).mono ?_
          rintro e w9 ⟨rfl, hb9⟩
          replace G0 := Lib.hid (G0.out.below hb9 G0.out.lt)
          replace G1 := Lib.hid (G1.out.below hb9 G1.out.lt)
          replace G5 := Lib.hid (G5.out.below hb9 G5.out.lt)
          replace G6 := Lib.hid (G6.out.below hb9 G6.out.lt)
          replace G9 := Lib.hid (G9.out.below hb9 G9.out.lt)
          replace B := Lib.hid (bvia B.out hb9)
          clear hb9
          go_wp2
          go_ret
          exact ⟨rfl, B.out⟩
        · go_wp2_with fail
          go_wp2_with fail
          refine (CO.out _).mono ?_
          rintro e w8 ⟨rfl, hb8⟩
          clear cG90 cG91 cG92 cG50 cG51 cG52
          replace G0 := Lib.hid (G0.out.below hb8 G0.out.lt)
          replace G1 := Lib.hid (G1.out.below hb8 G1.out.lt)
          replace G5 := Lib.hid (G5.out.below hb8 G5.out.lt)
          replace G6 := Lib.hid (G6.out.below hb8 G6.out.lt)
          replace G9 := Lib.hid (G9.out.below hb8 G9.out.lt)
          replace B := Lib.hid (bvia B.out hb8)
          clear hb8
          go_wp2_with fail
          go_wp2_with fail
          refine (awakeC _).mono ?_
          rintro e w9 ⟨rfl, hb9⟩
          replace G0 := Lib.hid (G0.out.below hb9 G0.out.lt)
          replace G1 := Lib.hid (G1.out.below hb9 G1.out.lt)
          replace G5 := Lib.hid (G5.out.below hb9 G5.out.lt)
          replace G6 := Lib.hid (G6.out.below hb9 G6.out.lt)
          replace G9 := Lib.hid (G9.out.below hb9 G9.out.lt)
          replace B := Lib.hid (bvia B.out hb9)
          clear hb9
          go_wp2
          go_ret
          exact ⟨rfl, B.out⟩
      | true =>
        rw [show errL X Y Z = 0 from if_pos hO] at CO
        have CR2 := Lib.hid (fun W => reduceTC X Y Z W hO)
        clear hO
        rcases hor with k1 | ⟨k1, k2⟩
        · go_wp2_with fail
          go_wp2_with fail
          refine (CO.out _).mono ?_
          rintro e w8 ⟨rfl, hb8⟩
          clear cG90 cG91 cG92 cG50 cG51 cG52
          replace G0 := Lib.hid (G0.out.below hb8 G0.out.lt)
          replace G1 := Lib.hid (G1.out.below hb8 G1.out.lt)
          replace G5 := Lib.hid (G5.out.below hb8 G5.out.lt)
          replace G6 := Lib.hid (G6.out.below hb8 G6.out.lt)
          replace G9 := Lib.hid (G9.out.below hb8 G9.out.lt)
          replace B := Lib.hid (bvia B.out hb8)
          clear hb8
          have cG90 : w8.cell? ⟨KG9, 0, none⟩ = some (.int .i64 X) := G9.out.cell 0
          have cG91 : w8.cell? ⟨KG9, 1, none⟩ = some (.int .i64 Y) := G9.out.cell 1
          have cG92 : w8.cell? ⟨KG9, 2, none⟩ = some (.int .i64 Z) := G9.out.cell 2
          have cG50 : w8.cell? ⟨KG5, 0, none⟩ = some (.int .i64 l.a) := G5.out.cell 0
          have cG51 : w8.cell? ⟨KG5, 1, none⟩ = some (.int .i64 l.b) := G5.out.cell 1
          have cG52 : w8.cell? ⟨KG5, 2, none⟩ = some (.int .i64 l.c) := G5.out.cell 2
          go_wp2_with fail
          refine (CR2.out _).mono ?_
          rintro e w9 ⟨⟨l2, m2, ST2, RD2, rfl⟩, hb9⟩
          clear cG90 cG91 cG92 cG50 cG51 cG52
          replace G0 := Lib.hid (G0.out.below hb9 G0.out.lt)
          replace G1 := Lib.hid (G1.out.below hb9 G1.out.lt)
          replace G5 := Lib.hid (G5.out.below hb9 G5.out.lt)
          replace G6 := Lib.hid (G6.out.below hb9 G6.out.lt)
          replace G9 := Lib.hid (G9.out.below hb9 G9.out.lt)
          replace B := Lib.hid (bvia B.out hb9)
          clear hb9
          obtain rfl : l = l2 := red_same STM.out HRD.out HUM.out HLE.out.symm ST2 RD2
          clear ST2 RD2
          have lG0GS : w.heap.size < w9.heap.size := G0.out.lt
          have lG1GS : w.heap.size + 1 < w9.heap.size := G1.out.lt
          have lG5GS : KG5 < w9.heap.size := G5.out.lt
          have lG6GS : KG5 + 1 < w9.heap.size := G6.out.lt
          have lG9GS : KG9 < w9.heap.size := G9.out.lt
          go_upto_region 15 with (fail)
          have D1 := Lib.hid ((Below.refl w9.heap.size w9).alloc (Nat.le_refl _) (.cells #[.int .i64 l.a, .int .i64 l.b, .int .i64 l.c] 23))
          replace D1 := Lib.hid (D1.out.alloc (by simp) (.cells #[.int .i64 (redM l m2).a, .int .i64 (redM l m2).b, .int .i64 (redM l m2).c, .int .i64 (redM l m2).d] 40))
          have GS : Hid (Has ((w9.alloc (.cells #[.int .i64 l.a, .int .i64 l.b, .int .i64 l.c] 23)).alloc (.cells #[.int .i64 (redM l m2).a, .int .i64 (redM l m2).b, .int .i64 (redM l m2).c, .int .i64 (redM l m2).d] 40)) w9.heap.size 23 [.int .i64 l.a, .int .i64 l.b, .int .i64 l.c]) := Has.alloc (Has.new rfl) _
          have GT : Hid (Has ((w9.alloc (.cells #[.int .i64 l.a, .int .i64 l.b, .int .i64 l.c] 23)).alloc (.cells #[.int .i64 (redM l m2).a, .int .i64 (redM l m2).b, .int .i64 (redM l m2).c, .int .i64 (redM l m2).d] 40)) (w9.heap.size + 1) 40 [.int .i64 (redM l m2).a, .int .i64 (redM l m2).b, .int .i64 (redM l m2).c, .int .i64 (redM l m2).d]) := Has.new2 rfl
          replace G0 := Lib.hid (G0.out.below D1.out G0.out.lt)
          replace G1 := Lib.hid (G1.out.below D1.out G1.out.lt)
          replace G5 := Lib.hid (G5.out.below D1.out G5.out.lt)
          replace G6 := Lib.hid (G6.out.below D1.out G6.out.lt)
          replace G9 := Lib.hid (G9.out.below D1.out G9.out.lt)
          replace B := Lib.hid (bvia B.out D1.out)
          clear D1
          generalize (w9.alloc (.cells #[.int .i64 l.a, .int .i64 l.b, .int .i64 l.c] 23)).alloc (.cells #[.int .i64 (redM l m2).a, .int .i64 (redM l m2).b, .int .i64 (redM l m2).c, .int .i64 (redM l m2).d] 40) = V10 at *
          generalize w9.heap.size = KGS at *
          have cGS0 : V10.cell? ⟨KGS, 0, none⟩ = some (.int .i64 l.a) := GS.out.cell 0
          have cGS1 : V10.cell? ⟨KGS, 1, none⟩ = some (.int .i64 l.b) := GS.out.cell 1
          have cGS2 : V10.cell? ⟨KGS, 2, none⟩ = some (.int .i64 l.c) := GS.out.cell 2
          have cG50 : V10.cell? ⟨KG5, 0, none⟩ = some (.int .i64 l.a) := G5.out.cell 0
          have cG51 : V10.cell? ⟨KG5, 1, none⟩ = some (.int .i64 l.b) := G5.out.cell 1
          have cG52 : V10.cell? ⟨KG5, 2, none⟩ = some (.int .i64 l.c) := G5.out.cell 2
          go_wp2_with fail
          go_wp2_with fail
          refine (awakeC _).mono ?_
          rintro e w11 ⟨rfl, hb11⟩
          clear cGS0 cGS1 cGS2 cG50 cG51 cG52
          replace G0 := Lib.hid (G0.out.below hb11 G0.out.lt)
          replace G1 := Lib.hid (G1.out.below hb11 G1.out.lt)
          replace G5 := Lib.hid (G5.out.below hb11 G5.out.lt)
          replace G6 := Lib.hid (G6.out.below hb11 G6.out.lt)
          replace G9 := Lib.hid (G9.out.below hb11 G9.out.lt)
          replace GS := Lib.hid (GS.out.below hb11 GS.out.lt)
          replace GT := Lib.hid (GT.out.below hb11 GT.out.lt)
          replace B := Lib.hid (bvia B.out hb11)
          clear hb11
          go_wp2
          go_ret
          exact ⟨rfl, B.out⟩
        · go_wp2_with fail
          go_wp2_with fail
          refine (CO.out _).mono ?_
          rintro e w8 ⟨rfl, hb8⟩
          clear cG90 cG91 cG92 cG50 cG51 cG52
          replace G0 := Lib.hid (G0.out.below hb8 G0.out.lt)
          replace G1 := Lib.hid (G1.out.below hb8 G1.out.lt)
          replace G5 := Lib.hid (G5.out.below hb8 G5.out.lt)
          replace G6 := Lib.hid (G6.out.below hb8 G6.out.lt)
          replace G9 := Lib.hid (G9.out.below hb8 G9.out.lt)
          replace B := Lib.hid (bvia B.out hb8)
          clear hb8
          have cG90 : w8.cell? ⟨KG9, 0, none⟩ = some (.int .i64 X) := G9.out.cell 0
          have cG91 : w8.cell? ⟨KG9, 1, none⟩ = some (.int .i64 Y) := G9.out.cell 1
          have cG92 : w8.cell? ⟨KG9, 2, none⟩ = some (.int .i64 Z) := G9.out.cell 2
          have cG50 : w8.cell? ⟨KG5, 0, none⟩ = some (.int .i64 l.a) := G5.out.cell 0
          have cG51 : w8.cell? ⟨KG5, 1, none⟩ = some (.int .i64 l.b) := G5.out.cell 1
          have cG52 : w8.cell? ⟨KG5, 2, none⟩ = some (.int .i64 l.c) := G5.out.cell 2
          go_wp2_with fail
          refine (CR2.out _).mono ?_
          rintro e w9 ⟨⟨l2, m2, ST2, RD2, rfl⟩, hb9⟩
          clear cG90 cG91 cG92 cG50 cG51 cG52
          replace G0 := Lib.hid (G0.out.below hb9 G0.out.lt)
          replace G1 := Lib.hid (G1.out.below hb9 G1.out.lt)
          replace G5 := Lib.hid (G5.out.below hb9 G5.out.lt)
          replace G6 := Lib.hid (G6.out.below hb9 G6.out.lt)
          replace G9 := Lib.hid (G9.out.below hb9 G9.out.lt)
          replace B := Lib.hid (bvia B.out hb9)
          clear hb9
          obtain rfl : l = l2 := red_same STM.out HRD.out HUM.out HLE.out.symm ST2 RD2
          clear ST2 RD2
          have lG0GS : w.heap.size < w9.heap.size := G0.out.lt
          have lG1GS : w.heap.size + 1 < w9.heap.size := G1.out.lt
          have lG5GS : KG5 < w9.heap.size := G5.out.lt
          have lG6GS : KG5 + 1 < w9.heap.size := G6.out.lt
          have lG9GS : KG9 < w9.heap.size := G9.out.lt
          go_upto_region 15 with (fail)
          have D1 := Lib.hid ((Below.refl w9.heap.size w9).alloc (Nat.le_refl _) (.cells #[.int .i64 l.a, .int .i64 l.b, .int .i64 l.c] 23))
          replace D1 := Lib.hid (D1.out.alloc (by simp) (.cells #[.int .i64 (redM l m2).a, .int .i64 (redM l m2).b, .int .i64 (redM l m2).c, .int .i64 (redM l m2).d] 40))
          have GS : Hid (Has ((w9.alloc (.cells #[.int .i64 l.a, .int .i64 l.b, .int .i64 l.c] 23)).alloc (.cells #[.int .i64 (redM l m2).a, .int .i64 (redM l m2).b, .int .i64 (redM l m2).c, .int .i64 (redM l m2).d] 40)) w9.heap.size 23 [.int .i64 l.a, .int .i64 l.b, .int .i64 l.c]) := Has.alloc (Has.new rfl) _
          have GT : Hid (Has ((w9.alloc (.cells #[.int .i64 l.a, .int .i64 l.b, .int .i64 l.c] 23)).alloc (.cells #[.int .i64 (redM l m2).a, .int .i64 (redM l m2).b, .int .i64 (redM l m2).c, .int .i64 (redM l m2).d] 40)) (w9.heap.size + 1) 40 [.int .i64 (redM l m2).a, .int .i64 (redM l m2).b, .int .i64 (redM l m2).c, .int .i64 (redM l m2).d]) := Has.new2 rfl
          replace G0 := Lib.hid (G0.out.below D1.out G0.out.lt)
          replace G1 := Lib.hid (G1.out.below D1.out G1.out.lt)
          replace G5 := Lib.hid (G5.out.below D1.out G5.out.lt)
          replace G6 := Lib.hid (G6.out.below D1.out G6.out.lt)
          replace G9 := Lib.hid (G9.out.below D1.out G9.out.lt)
          replace B := Lib.hid (bvia B.out D1.out)
          clear D1
          generalize (w9.alloc (.cells #[.int .i64 l.a, .int .i64 l.b, .int .i64 l.c] 23)).alloc (.cells #[.int .i64 (redM l m2).a, .int .i64 (redM l m2).b, .int .i64 (redM l m2).c, .int .i64 (redM l m2).d] 40) = V10 at *
          generalize w9.heap.size = KGS at *
          have cGS0 : V10.cell? ⟨KGS, 0, none⟩ = some (.int .i64 l.a) := GS.out.cell 0
          have cGS1 : V10.cell? ⟨KGS, 1, none⟩ = some (.int .i64 l.b) := GS.out.cell 1
          have cGS2 : V10.cell? ⟨KGS, 2, none⟩ = some (.int .i64 l.c) := GS.out.cell 2
          have cG50 : V10.cell? ⟨KG5, 0, none⟩ = some (.int .i64 l.a) := G5.out.cell 0
          have cG51 : V10.cell? ⟨KG5, 1, none⟩ = some (.int .i64 l.b) := G5.out.cell 1
          have cG52 : V10.cell? ⟨KG5, 2, none⟩ = some (.int .i64 l.c) := G5.out.cell 2
          go_wp2_with fail
          go_wp2_with fail
          refine (awakeC _).mono ?_
          rintro e w11 ⟨rfl, hb11⟩
          clear cGS0 cGS1 cGS2 cG50 cG51 cG52
          replace G0 := Lib.hid (G0.out.below hb11 G0.out.lt)
          replace G1 := Lib.hid (G1.out.below hb11 G1.out.lt)
          replace G5 := Lib.hid (G5.out.below hb11 G5.out.lt)
          replace G6 := Lib.hid (G6.out.below hb11 G6.out.lt)
          replace G9 := Lib.hid (G9.out.below hb11 G9.out.lt)
          replace GS := Lib.hid (GS.out.below hb11 GS.out.lt)
          replace GT := Lib.hid (GT.out.below hb11 GT.out.lt)
          replace B := Lib.hid (bvia B.out hb11)
          clear hb11
          go_wp2
          go_ret
          exact ⟨rfl, B.out⟩
end Go.Proofs.Ytmghpaibdgkbfaa
