/-
  Contracts of chapter 24: asked of both, ends, sewn, common, gcd.
-/
import Derived.Test.YtdimfbmbomgiaaaVG1
import Derived.Test.YtdimfbmbomgiaaaVG6
import Derived.Test.YtdimfbmbomgiaaaVG9
import Derived.Test.YtdimfbmbomgiaaaVG10
import Derived.Test.YtdimfbmbomgiaaaVG11
import Derived.BigQuiet
import Derived.Deep.RegionHeld3
namespace Go.Proofs.Ytdimfbmbomgiaaa
open Go.RowKit
set_option maxRecDepth 100000 in
set_option maxHeartbeats 1000000 in
theorem asked31 (p : Int) (A : Option Addr) (n c : Nat) (h : Int) (ws : List Wk) (w : World) (hn : n ≤ 9223372036854775807) (hw : RdW w w.heap.size A ws) (hl : ws.length = n)
    (hs : ∀ x ∈ ws, x.word.size ≤ 9223372036854775807) :
    Calls Try.prog 31 #[.agg #[.int .i64 p, .slice A n c], .int .i64 h] w fun e w' => e = .returned (.int .i64 (seE p ws h)) ∧ Below w.heap.size w w' := by
  have C := Lib.hid (fun (W : World) (hb : Below w.heap.size w W) => shCheck p A n c ws W hn (hw.up hb) hl hs)
  have K0 : Has (w.alloc (.cells #[.int .i64 p, .slice A n c] 24)) w.heap.size 24 [.int .i64 p, .slice A n c] := Has.new rfl
  clear hw hl hs
  by_cases hE : schk p ws = 0
  case neg =>
    have e : seE p ws h = schk p ws := by unfold seE; rw [if_pos hE]
    rw [e]
    have hd : (schk p ws != 0) = true := by simpa using hE
    generalize schk p ws = q at *
    clear hE e
    go_enter Try.func31, Try.ntmps31
    go_wp2_with fail
    refine (C.out _ (by go_grown)).mono ?_
    rintro e w1 ⟨rfl, hb1⟩
    go_wp2
    go_ret
    exact ⟨rfl, bvia (by go_grown) hb1⟩
  rw [hE] at C
  have e : seE p ws h = if h < 0 ∨ p ≤ h then 2 else 0 := by unfold seE; rw [if_neg (by simpa using hE)]
  rw [e]
  clear hE e
  by_cases h1 : h < 0
  · rw [if_pos (.inl h1)]
    have d1 : decide (h < 0) = true := decide_eq_true h1
    go_enter Try.func31, Try.ntmps31
    go_wp2_with fail
    refine (C.out _ (by go_grown)).mono ?_
    rintro e w1 ⟨rfl, hb1⟩
    go_wp2
    go_ret
    exact ⟨rfl, bvia (by go_grown) hb1⟩
  · have d1 : decide (h < 0) = false := decide_eq_false h1
    by_cases h2 : p ≤ h
    · rw [if_pos (.inr h2)]
      have d2 : decide (p ≤ h) = true := decide_eq_true h2
      go_enter Try.func31, Try.ntmps31
      go_wp2_with fail
      refine (C.out _ (by go_grown)).mono ?_
      rintro e w1 ⟨rfl, hb1⟩
      have k0 : w1.cell? ⟨w.heap.size, 0, none⟩ = some (.int .i64 p) := (K0.below hb1 K0.lt).cell 0
      have q := (K0.below hb1 K0.lt).lt
      go_wp2
      go_ret
      exact ⟨rfl, bvia (by go_grown) hb1⟩
    · rw [if_neg (by omega)]
      have d2 : decide (p ≤ h) = false := decide_eq_false h2
      go_enter Try.func31, Try.ntmps31
      go_wp2_with fail
      refine (C.out _ (by go_grown)).mono ?_
      rintro e w1 ⟨rfl, hb1⟩
      have k0 : w1.cell? ⟨w.heap.size, 0, none⟩ = some (.int .i64 p) := (K0.below hb1 K0.lt).cell 0
      have q := (K0.below hb1 K0.lt).lt
      go_wp2
      go_ret
      exact ⟨rfl, bvia (by go_grown) hb1⟩
set_option maxRecDepth 100000 in
set_option maxHeartbeats 1000000 in
theorem asked32 (p : Int) (A : Option Addr) (n c : Nat) (h : Int) (ws : List Wk) (w : World) (hn : n ≤ 9223372036854775807) (hw : RdW w w.heap.size A ws) (hl : ws.length = n)
    (hs : ∀ x ∈ ws, x.word.size ≤ 9223372036854775807) :
    Calls Try.prog 32 #[.agg #[.int .i64 p, .slice A n c], .int .i64 h] w fun e w' => e = .returned (.int .i64 (seE p ws h)) ∧ Below w.heap.size w w' := by
  have C := Lib.hid (fun (W : World) (hb : Below w.heap.size w W) => check04 p A n c ws W hn (hw.up hb) hl hs)
  have K0 : Has (w.alloc (.cells #[.int .i64 p, .slice A n c] 24)) w.heap.size 24 [.int .i64 p, .slice A n c] := Has.new rfl
  clear hw hl hs
  by_cases hE : schk p ws = 0
  case neg =>
    have e : seE p ws h = schk p ws := by unfold seE; rw [if_pos hE]
    rw [e]
    have hd : (schk p ws == 0) = false := by simpa using hE
    generalize schk p ws = q at *
    clear hE e
    go_enter Try.func32, Try.ntmps32
    go_wp2_with fail
    refine (C.out _ (by go_grown)).mono ?_
    rintro e w1 ⟨rfl, hb1⟩
    go_wp2
    go_ret
    exact ⟨rfl, bvia (by go_grown) hb1⟩
  rw [hE] at C
  have e : seE p ws h = if h < 0 ∨ p ≤ h then 2 else 0 := by unfold seE; rw [if_neg (by simpa using hE)]
  rw [e]
  clear hE e
  by_cases h1 : h < 0
  · rw [if_pos (.inl h1)]
    have d1 : decide (h < 0) = true := decide_eq_true h1
    go_enter Try.func32, Try.ntmps32
    go_wp2_with fail
    refine (C.out _ (by go_grown)).mono ?_
    rintro e w1 ⟨rfl, hb1⟩
    go_wp2
    go_ret
    exact ⟨rfl, bvia (by go_grown) hb1⟩
  · have d1 : decide (h < 0) = false := decide_eq_false h1
    by_cases h2 : p ≤ h
    · rw [if_pos (.inr h2)]
      have d2 : decide (p ≤ h) = true := decide_eq_true h2
      go_enter Try.func32, Try.ntmps32
      go_wp2_with fail
      refine (C.out _ (by go_grown)).mono ?_
      rintro e w1 ⟨rfl, hb1⟩
      have k0 : w1.cell? ⟨w.heap.size, 0, none⟩ = some (.int .i64 p) := (K0.below hb1 K0.lt).cell 0
      have q := (K0.below hb1 K0.lt).lt
      go_wp2
      go_ret
      exact ⟨rfl, bvia (by go_grown) hb1⟩
    · rw [if_neg (by omega)]
      have d2 : decide (p ≤ h) = false := decide_eq_false h2
      go_enter Try.func32, Try.ntmps32
      go_wp2_with fail
      refine (C.out _ (by go_grown)).mono ?_
      rintro e w1 ⟨rfl, hb1⟩
      have k0 : w1.cell? ⟨w.heap.size, 0, none⟩ = some (.int .i64 p) := (K0.below hb1 K0.lt).cell 0
      have q := (K0.below hb1 K0.lt).lt
      go_wp2
      go_ret
      exact ⟨rfl, bvia (by go_grown) hb1⟩
set_option maxRecDepth 100000 in
set_option maxHeartbeats 1000000 in
theorem ends35 (p : Int) (A : Option Addr) (n c : Nat) (ws : List Wk) (w : World) (hn : n ≤ 9223372036854775807) (hw : RdW w w.heap.size A ws) (hl : ws.length = n) (hE : schk p ws = 0) :
    Calls Try.prog 35 #[.agg #[.int .i64 p, .slice A n c]] w (RetI (endL ws (2 * p).toNat) w) := by
  have HOK := Lib.hid (schk_zero hE)
  have CM := Lib.hid (fun (W : World) (hb : Below w.heap.size w W) => make11 p A n c ws W hn (hw.up hb) hl hE)
  have HV := Lib.hid (Mk.valid HOK.out n (by rw [hl]; exact Nat.le_refl _))
  have HEN : Hid (endsR (2 * p) (Mk.works ws n).xs (Mk.works ws n).ps = endL ws (2 * p).toNat) := by
    show _ = _
    rw [Mk.endsR HOK.out n (by rw [hl]; exact Nat.le_refl _), ← hl, works_endL HOK.out]
  have hp0 : -9223372036854775808 ≤ 2 * p := by have := HOK.out.ge; omega
  clear hw hl hE
  go_enter Try.func35, Try.ntmps35
  go_wp2_with fail
  refine (CM.out _ (by go_grown)).mono ?_
  rintro e w3 ⟨A3, n3, c3, D3, m3, d3, rfl, x3, p3, ln3, lm3, hc3, hc3', hd3, hd3', hb3⟩
  have B3 := Lib.hid (bvia (show Below w.heap.size w _ by go_grown) hb3)
  obtain ⟨t, ht⟩ : ∃ t, t = 2 * p := ⟨_, rfl⟩
  rw [← ht] at HV HEN hp0 ⊢
  have HX3 := Lib.hid x3
  have HP3 := Lib.hid p3
  have CE := Lib.hid (fun (W : World) (hb : Below w3.heap.size w3 W) => ends18 t A3 D3 n3 c3 m3 d3 _ _ W (Nat.le_trans hc3 hc3') (Nat.le_trans hd3 hd3') (HX3.out.up hb) (HP3.out.up hb) ln3 lm3 hp0)
  rw [HEN.out, HV.out] at CE
  have HTT := Lib.hid ht
  clear x3 p3 ln3 lm3 hb3 CM HX3 HP3 ht
  go_wp2_with fail
  refine (CE.out _ (by go_grown)).mono ?_
  rintro e w4 ⟨A4, n4, c4, rfl, hr4, hl4, hn4, hc4, hb4⟩
  have B4 := bvia B3.out (bvia (show Below w3.heap.size w3 _ by go_grown) hb4)
  go_wp2
  go_ret
  have e := HTT.out
  subst e
  exact ⟨A4, n4, c4, rfl, hr4, hl4, hn4, hc4, B4⟩
set_option maxRecDepth 100000 in
set_option maxHeartbeats 2000000 in
theorem sewn34 (p : Int) (A A' : Option Addr) (n c c' h : Nat) (ws : List Wk) (w : World) (hr : RdI w w.heap.size A' (endL ws (2 * p).toNat)) (hE : schk p ws = 0) (hh : (h : Int) < p) :
    Calls Try.prog 34 #[.agg #[.int .i64 p, .slice A n c], .slice A' (2 * p).toNat c', .int .i64 (h : Int)] w fun e w' => ∃ g, e = .returned (.pointer (some ⟨g, 0, none⟩)) ∧ w.heap.size ≤ g ∧ Has w' g 96 ((nxL ws (2 * p).toNat h 48).map vInt ++ [vInt (((2 * p).toNat : Nat) : Int)]) ∧ Below w.heap.size w w' := by
  have HOK := Lib.hid (schk_zero hE)
  have HR := Lib.hid hr
  have HALL := Lib.hid (jlS_all HOK.out h 48)
  have HLT : Hid (∀ j, j < (2 * p).toNat → plS ws j < (2 * p).toNat) := fun j hj => plS_lt HOK.out hj
  have hT : (2 * p).toNat ≤ 48 ∧ 4 ≤ (2 * p).toNat ∧ 2 * h < (2 * p).toNat := by have := HOK.out.le; have := HOK.out.ge; omega
  generalize (2 * p).toNat = T at *
  clear hr hE hh HOK
  obtain ⟨t48, t4, th⟩ := hT
  go_enter Try.func34, Try.ntmps34
  go_wp2
  obtain ⟨g, hg⟩ : ∃ g, g = w.heap.size + 1 := ⟨_, rfl⟩
  have HG := Lib.hid hg
  go_loopw [16] (fun v wr => ∃ j : Nat, j ≤ T ∧ v = .int .i64 (j : Int) ∧ Hid (Has wr (w.heap.size + 1) 96 ((jlS ws T h 48 j).map vInt ++ [vInt (T : Int)])) ∧ Hid (Below w.heap.size w wr)) (fun v _ => T - (intOf v).toNat)
  case atStart =>
    refine ⟨0, Nat.zero_le _, rfl, ?_, ?_⟩
    · rw [jlS_zero]
      have h1 := Has.new (w := w.alloc (.cells #[.int .i64 p, .slice A n c] 24)) (arr := ((List.replicate 48 (0 : Int)).map vInt ++ [vInt (T : Int)]).toArray) (t := 96) rfl
      rw [World.size_alloc] at h1
      exact h1
    · show Below _ _ _
      go_grown
  case round =>
    obtain ⟨j, hj, rfl, HS, HB⟩ := hrel
    obtain ⟨wo, rfl⟩ : ∃ wo : World, wo = wr := ⟨_, rfl⟩
    by_cases hlt : j < T
    · have jk : (j : Int) < (T : Int) := by omega
      obtain ⟨ba, o, hA, hba, c0⟩ := (HR.out.up HB.out) j _ (endL_get ws hlt)
      subst hA
      have hpl := HLT.out j hlt
      have HP := Lib.hid hpl
      have HNX := Lib.hid (jlS_set ws (h := h) (N := 48) (j := j) hpl)
      generalize plS ws j = q at *
      have i1 : IntKind.i64.wrap (2 * (h : Int)) = 2 * (h : Int) := IntWalk.i64_in _ (by omega)
      have i2 : IntKind.i64.wrap ((j : Int) + 2 * (h : Int)) = ((j + 2 * h : Nat) : Int) := by rw [IntWalk.i64_in _ (by omega)]; omega
      have i3 : ((j + 2 * h : Nat) : Int) % (T : Int) = ((((j + 2 * h) % T : Nat)) : Int) := by rw [Int.natCast_emod]
      have i4 : (T : Int) ≠ 0 := by omega
      have i5 : (0 : Int) ≤ ((j + 2 * h : Nat) : Int) := by omega
      have i8 : ¬ T = 0 := by omega
      have i9 : (0 : Int) ≤ (j : Int) + 2 * (h : Int) := by omega
      have i6 : (q : Int) < 48 := by omega
      have i7 : q < 48 := by omega
      have f0 := HS.out.free q
      have qs := HS.out.lt
      have v0 : wo.cell? ⟨w.heap.size + 1, q, none⟩ = some (vInt ((jlS ws T h 48 j).getD q 0)) := by
        rw [HS.out.cell, List.getElem?_append_left (by rw [List.length_map, jlS_len]; exact i7), List.getElem?_map, List.getD_eq_getElem?_getD]
        obtain ⟨x, hx⟩ := get_of_lt (l := jlS ws T h 48 j) (k := q) (by rw [jlS_len]; exact i7)
        rw [hx]; rfl
      clear hpl
      go_wp2
      go_region_held3 (fun _ => True) (trivial) (fail)
      go_wp2
      go_roundw
      case rel =>
        have e : ((j : Int) + 2 * (h : Int)) % (T : Int) = (((j + 2 * h) % T : Nat) : Int) := by rw [Int.natCast_emod]; congr 1
        rw [e]
        have h1 := HS.out.set q (vInt (((j + 2 * h) % T : Nat) : Int))
        rw [List.set_append_left _ _ (by rw [List.length_map, jlS_len]; exact i7), ← List.map_set, HNX.out] at h1
        exact ⟨j + 1, by omega, by go_num, h1.drew, (HB.out.setCell (by simp) _).drew⟩
      case measure => first | (simp [intOf]; done) | (simp [intOf]; omega)
    · obtain rfl : j = T := by omega
      go_wp2
      go_ret
      refine ⟨w.heap.size + 1, rfl, by omega, ?_, HB.out⟩
      rw [← HALL.out]; exact HS.out
theorem gcd_step (x y : Nat) : Nat.gcd y (x % y) = Nat.gcd x y := by rw [Nat.gcd_comm y, ← Nat.gcd_rec, Nat.gcd_comm]
set_option maxRecDepth 100000 in
set_option maxHeartbeats 1000000 in
theorem common40 (a b : Nat) (w : World) (ha : 0 < a) (hab : a ≤ 4611686018427387904) (hb : b ≤ 4611686018427387904) (hl : Nat.lcm a b ≤ 4611686018427387904) :
    Calls Try.prog 40 #[.int .i64 (a : Int), .int .i64 (b : Int)] w fun e w' => e = .returned (.int .i64 ((Nat.lcm a b : Nat) : Int)) ∧ Below w.heap.size w w' := by
  go_enter Try.func40, Try.ntmps40
  go_wp2
  go_loopw [5, 6] (fun u v wr => ∃ x y : Nat, u = .int .i64 (x : Int) ∧ v = .int .i64 (y : Int) ∧ x ≤ 4611686018427387904 ∧ y ≤ 4611686018427387904 ∧ Hid (Nat.gcd x y = Nat.gcd a b) ∧ Hid (Below w.heap.size w wr)) (fun _ v _ => (intOf v).toNat)
  case atStart => exact ⟨a, b, rfl, rfl, hab, hb, rfl, Below.refl _ _⟩
  case round =>
    obtain ⟨x, y, rfl, rfl, hx, hy, HG, HB⟩ := hrel
    obtain ⟨wo, rfl⟩ : ∃ wo : World, wo = wr := ⟨_, rfl⟩
    by_cases h0 : y = 0
    · subst h0
      have hg : x = Nat.gcd a b := by have := HG.out; rwa [Nat.gcd_zero_right] at this
      have hx0 : 0 < x := by rw [hg]; exact Nat.gcd_pos_of_pos_left _ ha
      have hd : Nat.lcm a b = a / x * b := by
        rw [hg]
        show a * b / Nat.gcd a b = _
        rw [Nat.div_mul_right_comm (Nat.gcd_dvd_left a b)]
      rw [hd] at hl
      have HD := Lib.hid hd
      have e1 : ((a : Int) / (x : Int)) = ((a / x : Nat) : Int) := by rw [Int.natCast_ediv]
      have e2 : ((a / x : Nat) : Int) * (b : Int) = ((a / x * b : Nat) : Int) := (Int.natCast_mul _ _).symm
      have i0 : ¬ x = 0 := by omega
      have i2 : IntKind.i64.wrap ((a : Int) / (x : Int) * (b : Int)) = ((a / x * b : Nat) : Int) := by rw [e1, e2]; exact IntWalk.i64_in _ (by omega)
      have hle : a / x ≤ a := Nat.div_le_self _ _
      have hle2 : (0 : Int) ≤ ((a / x : Nat) : Int) ∧ ((a / x : Nat) : Int) ≤ 4611686018427387904 := ⟨Int.natCast_nonneg _, Int.ofNat_le.2 (Nat.le_trans hle hab)⟩
      have i1 : IntKind.i64.wrap ((a : Int) / (x : Int)) = (a : Int) / (x : Int) := by rw [e1]; exact IntWalk.i64_in _ ⟨Int.le_trans (by decide) hle2.1, Int.le_trans hle2.2 (by decide)⟩
      have HI2 := Lib.hid i2
      have HE : Hid ((a : Int) / (x : Int) * (b : Int) = ((a / x * b : Nat) : Int)) := by rw [e1, e2]; rfl
      clear hg hd e2 hl e1 hle2
      go_wp2
      go_ret
      refine ⟨?_, HB.out⟩
      rw [HD.out, ← HE.out]; rfl
    · have i0 : ¬ y = 0 := h0
      have i1 : (0 : Int) ≤ (x : Int) := by omega
      have hm : x % y < y := Nat.mod_lt _ (by omega)
      have HGS := Lib.hid (gcd_step x y)
      go_wp2
      go_region_held3 (fun _ => True) (trivial) (fail)
      go_wp2
      go_roundw
      case rel => exact ⟨y, x % y, rfl, rfl, hy, by omega, HGS.out.trans HG.out, HB.out.drew⟩
      case measure => show (((x % y : Nat) : Int)).toNat < ((y : Int)).toNat; omega
set_option maxRecDepth 100000 in
theorem gcd28 (a b : Nat) (w : World) (hab : a ≤ 4611686018427387904) (hb : b ≤ 4611686018427387904) :
    Calls Try.prog 28 #[.int .i64 (a : Int), .int .i64 (b : Int)] w fun e w' => e = .returned (.int .i64 ((Nat.gcd a b : Nat) : Int)) ∧ Below w.heap.size w w' := by
  go_enter Try.func28, Try.ntmps28
  go_wp2
  go_loopw [0, 1] (fun u v wr => ∃ x y : Nat, u = .int .i64 (x : Int) ∧ v = .int .i64 (y : Int) ∧ x ≤ 4611686018427387904 ∧ y ≤ 4611686018427387904 ∧ Hid (Nat.gcd x y = Nat.gcd a b) ∧ Hid (Below w.heap.size w wr)) (fun _ v _ => (intOf v).toNat)
  case atStart => exact ⟨a, b, rfl, rfl, hab, hb, rfl, Below.refl _ _⟩
  case round =>
    obtain ⟨x, y, rfl, rfl, hx, hy, HG, HB⟩ := hrel
    obtain ⟨wo, rfl⟩ : ∃ wo : World, wo = wr := ⟨_, rfl⟩
    by_cases h0 : y = 0
    · subst h0
      have hg : x = Nat.gcd a b := by have := HG.out; rwa [Nat.gcd_zero_right] at this
      have HX := Lib.hid hg
      clear hg
      go_wp2
      go_ret
      exact ⟨by rw [HX.out]; rfl, HB.out⟩
    · have i0 : ¬ y = 0 := h0
      have i1 : (0 : Int) ≤ (x : Int) := by omega
      have hm : x % y < y := Nat.mod_lt _ (by omega)
      have HGS := Lib.hid (gcd_step x y)
      go_wp2
      go_region_held3 (fun _ => True) (trivial) (fail)
      go_wp2
      go_roundw
      case rel => exact ⟨y, x % y, rfl, rfl, hy, by omega, HGS.out.trans HG.out, HB.out.drew⟩
      case measure => show (((x % y : Nat) : Int)).toNat < ((y : Int)).toNat; omega
end Go.Proofs.Ytdimfbmbomgiaaa
/-
  Contracts of slices.AppendSeq and slices.Collect over the loops.
-/
namespace Go.Proofs.Ytdimfbmbomgiaaa
open Go.RowKit
attribute [local go_sem] Oper.semAt_some
theorem wpListIn_app {l n0 : Nat} {P : Program} {w : World} {ops : Array Oper} {rest : List Oper} {o : Oper} {a : Act} {Q : Exit → Act → World → Prop} (hgd : o.guard = none) (s x : Operand) (t : TypeId)
    (ho : o.op = .call { callee := .builtin .append, args := #[s, x], argTypes := #[t, t] })
    (base : Nat) (e : TypeId) (z : Value) (size bytes : Nat) (ht : P.underlying t = some (.slice e)) (hinf : (P.info? e).map (fun i => (i.zero, i.size, i.bytes)) = some (some z, size, bytes))
    (hzs : z.cells.size = size) (hsz : 0 < size) (hby : bytes ≤ 100)
    (v : Value) (n : Nat) (xs : List Value) (hs : a.eval s = v) (hown : w.ownsRow base e size v n xs)
    (b : Nat) (news : List Value) (hx : a.eval x = .slice (some ⟨b, 0, none⟩) 1 1) (hl : news.length = size) (hnews : ∀ j u, news[j]? = some u → w.cell? ⟨b, j, none⟩ = some u) (h1 : ∀ u ∈ news, u.oneCell' = true)
    (hn : n ≤ 1000000000) (hbase : base ≤ w.heap.size)
    (h : ∀ g cap w', base ≤ g → w'.ownsRow base e size (.slice (some ⟨g, 0, none⟩) (n + 1) cap) (n + 1) (xs ++ news) → w.grownBy w' v.ownBlock → (some g = v.ownBlock ∨ g = w.heap.size) →
      wpListIn (Fence.wide.inRound l) n0 P ops Q rest (a.put o.dst (.slice (some ⟨g, 0, none⟩) (n + 1) cap)) w') : wpListIn (Fence.wide.inRound l) n0 P ops Q (o :: rest) a w := by
  obtain ⟨i, hi, hz, hsize, hb⟩ := info_parts hinf
  refine wpListIn_plain hgd fun K hK => ?_
  have hmul : (n + 1) * bytes ≤ 140737488355328 := by
    have : (n + 1) * bytes ≤ 1000000001 * 100 := Nat.mul_le_mul (by omega) hby
    omega
  obtain ⟨v', w', hrun, h2, h3, h4, h5⟩ := run_append_own_at (P := P) w base t o.type e i z size bytes ht hi hz hsize hb hzs hsz v n xs hown ⟨b, 0, none⟩ 1 1 news (by rw [hl, Nat.one_mul]) (fun j u hu => by
    have := hnews j u hu
    have hadd : (⟨b, 0, none⟩ : Addr).add j = ⟨b, j, none⟩ := by unfold Addr.add; split <;> simp_all
    rw [hadd]; exact this) h1 (by simp only [maxLen]; omega) hmul hbase
  have hnn : v' ≠ .slice none 0 0 := fun e => by have := h4.1 e; omega
  rcases h2.2 with ⟨rfl, _⟩ | ⟨g, cap, cur, rfl, hg, _⟩
  · exact absurd rfl hnn
  · refine ⟨fun _ _ => trivial, ?_⟩
    rw [Fence.inRound_round, Oper.semAt_some l _ _ (by rw [ho]; intro c hc; cases hc)]
    unfold execOp
    simp only [ho, resolve, invoke, builtin, Sem.run_bind, Sem.run_pure, Result.andThen_ok, List.map_toArray, List.map_cons, List.map_nil, hs, hx, hrun]
    refine hK _ _ (h g cap w' hg h2 h3 ?_)
    rcases h5 with h5 | h5
    · left; rw [← h5]; rfl
    · right; simpa [Value.ownBlock] using h5
theorem Has.not_dead {W : World} {g : Nat} {t : TypeId} {cs : List Value} (h : Has W g t cs) {row : Option Nat} (hr : ∀ r, row = some r → ∃ o : Obj, W.heap[r]? = some o ∧ o.isCells = false) : some g ≠ row := fun e => by
  obtain ⟨o, h1, h2⟩ := hr g e.symm
  unfold Has at h
  rw [h] at h1
  injection h1 with h1
  rw [← h1] at h2; cases h2
theorem Has.ne_def {W : World} {g D : Nat} {t : TypeId} {cs : List Value} (h : Has W g t cs) {o : Obj} (hD : W.heap[D]? = some o) (ho : o.isCells = false) : g ≠ D := fun e => by
  subst e
  unfold Has at h
  rw [h] at hD
  injection hD with hD
  rw [← hD] at ho; cases ho
theorem postM_mark1 {P : Program} {fn : Func} {R : Ending → World → Prop} {a : Act} {w : World} {t : Tmp} {D : Nat} {x : Value} (hres : fn.results = #[.tmp t])
    (hx : a.tmps.getD t undef = x) (hd : a.defers = [{ target := .collected D, args := #[] }]) (hD : w.heap[D]? = some (.deferred (some [])))
    (hR : R (.returned x) (w.putObj D (.deferred none))) : bodyPostM Fence.wide 0 P fn R .ret a w := by
  show LeavesInM Fence.wide 0 P fn a.tmps R a.defers .returning w
  rw [hd]
  refine ⟨by simp, .inl ⟨_, _, rfl, run_takeDeferred hD, ?_⟩⟩
  exact ⟨x, by rw [results_tmp hres, hx], hR⟩
def slV (x : Lp) : Value := .slice x.1.1 x.2.length x.1.2
/-- a list of lists in memory -/
def RdL (w : World) (B : Nat) (A : Option Addr) (ls : List (List Nat)) : Prop :=
  ∀ (k : Nat) (l : List Nat), ls[k]? = some l → ∃ b o A' c', A = some ⟨b, o, none⟩ ∧ b < B ∧ w.cell? ⟨b, o + k, none⟩ = some (.slice A' l.length c') ∧ Rd1 vNat w B A' l
theorem RdL.below {w w' : World} {B B' : Nat} {A : Option Addr} {ls : List (List Nat)} (h : RdL w B A ls) (hb : Below B w w') (hB : B ≤ B') : RdL w' B' A ls := fun k l hl => by
  obtain ⟨b, o, A', c', h1, h2, h3, h4⟩ := h k l hl
  exact ⟨b, o, A', c', h1, Nat.lt_of_lt_of_le h2 hB, (hb.cell h2).trans h3, h4.below hb hB⟩
theorem RdL.up {w w' : World} {A : Option Addr} {ls : List (List Nat)} (h : RdL w w.heap.size A ls) (hb : Below w.heap.size w w') : RdL w' w'.heap.size A ls := h.below hb hb.size
/-- what holds between two rounds of AppendSeq -/
structure ColI (w0 b0 b hi : Nat) (w : World) (pre : List Lp) (W : World) : Prop where
  row : ∃ (X : Option Addr) (c : Nat), Has W b 35 [.slice X pre.length c] ∧ W.ownsRow w0 52 1 (.slice X pre.length c) pre.length (pre.map slV) ∧ ∀ r, (Value.slice X pre.length c).ownBlock = some r → r < hi
  rows : ∀ x ∈ pre, W.ownsRow w0 3 1 (slV x) x.2.length (x.2.map vNat) ∧ ∀ r, (slV x).ownBlock = some r → r < hi
  below : Below b0 w W
  top : w0 ≤ hi
theorem colI_own {B w0 b0 b hi : Nat} {w : World} (hb : b0 ≤ B) (hw : b0 ≤ w.heap.size) : OwnFrom B (fun (pre : List Lp) W => ColI w0 b0 b hi w pre W) := fun pre W W' row hs hg hr => by
  obtain ⟨⟨X, c, h1, h2, h3⟩, h5, h4, h6⟩ := hs
  refine ⟨⟨X, c, h1.same (hg.block _ h1.lt (h1.not_dead (fun r e => (hr r e).2))), own_same h2 (fun g hgv => ?_), h3⟩, fun x hx => ⟨own_same (h5 x hx).1 (fun g hgv => ?_), (h5 x hx).2⟩, ?_, h6⟩
  · obtain ⟨y, hy⟩ := own_cells2 h2 hgv
    exact hg.block _ hy.lt (hy.not_dead (fun r e => (hr r e).2))
  · obtain ⟨y, hy⟩ := own_cells2 (h5 x hx).1 hgv
    exact hg.block _ hy.lt (hy.not_dead (fun r e => (hr r e).2))
  · refine ⟨hg.os.trans h4.os, hg.tape.trans h4.tape, hg.output.trans h4.output, Nat.le_trans h4.size hg.size, fun i hi => (hg.block i (Nat.lt_of_lt_of_le (Nat.lt_of_lt_of_le hi hw) h4.size) (fun e => ?_)).trans (h4.block i hi)⟩
    have := (hr i e.symm).1; omega
theorem Has.of_type {W : World} {g : Nat} {t t' : TypeId} {cs cs' : List Value} (h : Has W g t cs) (h' : Has W g t' cs') : t = t' := by
  unfold Has at h h'
  rw [h] at h'
  injection h' with h'
  injection h' with _ h'
theorem ColI.keep {w0 b0 b hi : Nat} {w V V' : World} {pre : List Lp} (h : ColI w0 b0 b hi w pre V) (k : IterS w0 hi V V') (h1 : b < w0) (h3 : b0 ≤ w0) (hw : b0 ≤ w.heap.size) : ColI w0 b0 b hi w pre V' := by
  obtain ⟨⟨X, c, a1, a2, a3⟩, a4, a5, a6⟩ := h
  refine ⟨⟨X, c, a1.same (k.same _ a1.lt (.inl h1)), own_same a2 (fun g hg => ?_), a3⟩, fun x hx => ⟨own_same (a4 x hx).1 (fun g hg => ?_), (a4 x hx).2⟩, ?_, a6⟩
  · obtain ⟨y, hy⟩ := own_cells2 a2 hg
    exact k.same g hy.lt (.inr ⟨a3 g hg, fun ⟨cs, hc⟩ => absurd (hy.of_type hc) (by decide)⟩)
  · obtain ⟨y, hy⟩ := own_cells2 (a4 x hx).1 hg
    exact k.same g hy.lt (.inr ⟨(a4 x hx).2 g hg, fun ⟨cs, hc⟩ => absurd (hy.of_type hc) (by decide)⟩)
  · exact ⟨k.os.trans a5.os, k.tape.trans a5.tape, k.output.trans a5.output, Nat.le_trans a5.size k.size, fun r hr => (k.same r (Nat.lt_of_lt_of_le (Nat.lt_of_lt_of_le hr hw) a5.size) (.inl (by omega))).trans (a5.block r hr)⟩
theorem infoSl : (Try.prog.info? 52).map (fun i => (i.zero, i.size, i.bytes)) = some (some (.slice none 0 0), 1, 24) := by kernel_rfl
/-- what a caller of the iterator must know of the seam -/
structure Seam (bx gs T : Nat) (nx : Nat → Nat) (ns : List Int) (W : World) : Prop where
  T48 : T ≤ 48
  perm : Cyc.Perm nx T
  get : ∀ t, t < T → ns[t]? = some (nx t : Int)
  len : ns.length = 48
  box : W.cell? ⟨bx, 0, none⟩ = some (.pointer (some ⟨gs, 0, none⟩))
  seam : Has W gs 96 (ns.map vInt ++ [vInt (T : Int)])
theorem Seam.below {bx gs T : Nat} {nx : Nat → Nat} {ns : List Int} {W W' : World} (h : Seam bx gs T nx ns W) (hb : Below W.heap.size W W') : Seam bx gs T nx ns W' :=
  ⟨h.T48, h.perm, h.get, h.len, (hb.cell (p := ⟨bx, 0, none⟩) (block_lt_of_cell h.box)).trans h.box, h.seam.below hb h.seam.lt⟩
set_option maxRecDepth 100000 in
set_option maxHeartbeats 4000000 in
theorem appendSeq51 (bx gs T : Nat) (nx : Nat → Nat) (ns : List Int) (w : World) (hS : Seam bx gs T nx ns w) :
    Calls Try.prog 51 #[.slice none 0 0, .func (.func 54) #[] #[.pointer (some ⟨bx, 0, none⟩)]] w fun e w' => ∃ A n c, e = .returned (.slice A n c) ∧ RdL w' w'.heap.size A (Cyc.loops nx T) ∧ (Cyc.loops nx T).length = n ∧ n ≤ c ∧ c ≤ 9223372036854775807 ∧ Below w.heap.size w w' := by
  have HS := Lib.hid hS
  have q0 : bx < w.heap.size := block_lt_of_cell hS.box
  have q1 : gs < w.heap.size := hS.seam.lt
  have hlen : (Cyc.loops nx T).length ≤ 48 := by
    have h1 := Cyc.loops_total hS.perm
    have h2 := hS.T48
    have h3 : ∀ (ls : List (List Nat)), (∀ l ∈ ls, 0 < l.length) → ls.length ≤ (ls.map List.length).sum := fun ls => by
      induction ls with
      | nil => intro _; simp
      | cons x ls ih =>
        intro h
        have := ih (fun l hl => h l (by simp [hl]))
        have := h x (by simp)
        simp only [List.length_cons, List.map_cons, List.sum_cons]; omega
    have := h3 _ (Cyc.loops_pos hS.perm)
    omega
  clear hS
  refine (callsIn_wide (n := 0)).1 (callsIn_of_wp_marks Try.func51 rfl trivial ?_)
  simp only [Try.ntmps51, List.size_toArray, List.length_cons, List.length_nil, Nat.reduceAdd, Nat.reduceSub, Array.replicate_succ, Array.replicate_zero, List.push_toArray, List.append_toArray, List.nil_append, List.cons_append]
  refine wpIn_wide.2 ?_
  go_wp2
  have K5 : Has (w.alloc (.cells #[.slice none 0 0] 35)) w.heap.size 35 [.slice none 0 0] := Has.new rfl
  have B1 : Below w.heap.size w (w.alloc (.cells #[.slice none 0 0] 35)) := by go_grown
  have hsz : (w.alloc (.cells #[.slice none 0 0] 35)).heap.size = w.heap.size + 1 := by simp
  obtain ⟨w1, hw1⟩ : ∃ w1, w1 = w.alloc (.cells #[.slice none 0 0] 35) := ⟨_, rfl⟩
  rw [← hw1] at K5 B1 hsz ⊢
  clear hw1
  refine wpIn_wide.1 (range_lawK (n := 0) (gf := 54) (lb := #[.pointer (some ⟨bx, 0, none⟩)]) rfl Try.call54 encL (fun _ => rfl) (fun hi pre W => ColI w1.heap.size w.heap.size w.heap.size hi w pre W) (fun ys => ys.map (·.2) = Cyc.loops nx T) (fun hi pre x W => (pre ++ [x]).map (·.2) <+: Cyc.loops nx T ∧ OkL hi x W) (KeepS w.heap.size w1.heap.size) (fun _ _ _ _ _ h k => h.trans k) (fun _ _ _ _ _ _ _ => KeepS.put _ _ _ _ _ _) (fun _ => colI_own (by omega) (Nat.le_refl _)) ⟨⟨none, 0, K5, World.ownsRow_nil _ _ _ _, fun r hr => by cases hr⟩, fun x hx => (by simp at hx), B1, Nat.le_refl _⟩ ?iter ?rnd ?done)
  case iter =>
    intro l dd r0 W hd1 hd2 hKB hMid hY
    have hks := hKB.1
    have hlW := (Array.getElem?_eq_some_iff.1 hMid.rec_).1
    have hS1 := HS.out.below B1
    have hbox := (cell_same (a := ⟨bx, 0, none⟩) (hKB.2 bx (by omega) (by omega))).trans hS1.box
    have hseam := hS1.seam.same (hKB.2 gs (by omega) (by omega))
    refine callsIn_wide.2 ((iterS (fun hi pre W => ColI w1.heap.size w.heap.size w.heap.size hi w pre W) l dd w.heap.size w1.heap.size bx gs T r0 nx ns W hS1.T48 hS1.perm hS1.get hS1.len ?_ hlW hks (by omega) (by omega) (by omega) (by omega) (by omega) hbox hseam hMid ?_).mono ?_)
    · exact fun hi pre V V' h hk _ => h.keep hk (by omega) (by omega) (Nat.le_refl _)
    · exact fun hi pre x W1 hpre hok htop hmid => hY hi pre x W1 ⟨hpre, hok⟩ htop hmid
    · rintro e W' ⟨hv, hi, xs, hx, h⟩
      exact ⟨hv, hi, xs, hx, h⟩
  case done =>
    rintro D hi xs' W hD hxs ⟨⟨X, cx, j1, j2, j3⟩, j5, j4, _⟩ hDf
    have e0 : W.cell? ⟨w.heap.size, 0, none⟩ = some (.slice X xs'.length cx) := j1.cell 0
    have HJ := Lib.hid j2
    have HJ5 := Lib.hid j5
    have HXS := Lib.hid hxs
    have hcc := own_caps j2
    have q5 := j1.lt
    have hle : w.heap.size ≤ D := by omega
    clear j1 j2 j3 j5 hxs
    go_wp2
    refine postM_mark1 rfl rfl rfl hDf ?_
    have hJ := own_same (w' := W.putObj D (.deferred none)) HJ.out (fun g hg => World.putObj_heap_other (by obtain ⟨_, hc⟩ := own_cells2 HJ.out hg; exact hc.ne_def hDf rfl))
    refine ⟨X, xs'.length, cx, rfl, fun k lk hlk => ?_, by rw [← HXS.out, List.length_map], hcc.1, hcc.2, below_put j4 hle _⟩
    rw [← HXS.out, List.getElem?_map] at hlk
    obtain ⟨x, hx⟩ := get_of_lt (l := xs') (k := k) (by
      rcases Nat.lt_or_ge k xs'.length with h | h
      · exact h
      · rw [List.getElem?_eq_none h] at hlk; cases hlk)
    rw [hx] at hlk
    injection hlk with hlk
    subst hlk
    obtain ⟨g, h1, _, h3, h4⟩ := own_at hJ (j := k) (u := slV x) (by rw [List.getElem?_map, hx]; rfl)
    obtain ⟨r1, r2⟩ := HJ5.out x (mem_of_get hx)
    have hR := own_same (w' := W.putObj D (.deferred none)) r1 (fun g hg => World.putObj_heap_other (by obtain ⟨_, hc⟩ := own_cells2 r1 hg; exact hc.ne_def hDf rfl))
    exact ⟨g, 0, x.1.1, x.1.2, h1, h3, by rw [Nat.zero_add]; exact h4, own_rd1 hR⟩
  case rnd =>
    rintro hi l pre x W o ⟨hpre, hok⟩ hl htop ⟨⟨X, cx, j1, j2, j3⟩, j5, j4, j6⟩ hWl ho
    have hpl : pre.length ≤ 48 := by
      have h1 := hpre.length_le
      rw [List.length_map, List.length_append, List.length_singleton] at h1
      omega
    have hll := (Array.getElem?_eq_some_iff.1 hWl).1
    have hsz1 := j4.size
    have q5 := j1.lt
    clear hpre
    dsimp only [encL]
    gi_wp2
    refine ⟨KeepsOthers.refl _, ⟨Nat.le_refl _, fun _ _ _ _ => rfl⟩, fun o' ho' => ?_⟩
    have Y4 := j1.same (w' := W.putObj l o') (World.putObj_heap_other (by omega))
    have Y5 := below_put j4 (D := l) (by omega) o'
    have Y6 := own_same (w' := W.putObj l o') j2 (fun g hg => World.putObj_heap_other (by obtain ⟨_, hc⟩ := own_cells2 j2 hg; exact hc.ne_def hWl ho))
    have Y7 : Hid (∀ y ∈ pre, (W.putObj l o').ownsRow w1.heap.size 3 1 (slV y) y.2.length (y.2.map vNat) ∧ ∀ r, (slV y).ownBlock = some r → r < hi) := fun y hy => ⟨own_same (j5 y hy).1 (fun g hg => World.putObj_heap_other (by obtain ⟨_, hc⟩ := own_cells2 (j5 y hy).1 hg; exact hc.ne_def hWl ho)), (j5 y hy).2⟩
    have Y8 : Hid ((W.putObj l o').ownsRow hi 3 1 (slV x) x.2.length (x.2.map vNat)) := own_same hok (fun g hg => World.putObj_heap_other (by obtain ⟨_, hc⟩ := own_cells2 hok hg; exact hc.ne_def hWl ho))
    have hYs : W.heap.size = (W.putObj l o').heap.size := by simp [World.putObj]
    have hYl : (W.putObj l o').heap[l]? = some o' := World.putObj_heap_same hll
    clear j1 j2 j4 j5 hWl hok
    generalize W.putObj l o' = Y at *
    have e0 : Y.cell? ⟨w.heap.size, 0, none⟩ = some (.slice X pre.length cx) := Y4.cell 0
    have q6 := Y4.lt
    have HY4 := Lib.hid Y4
    have HY6 := Lib.hid Y6
    have HY5 := Lib.hid Y5
    have HJ3 := Lib.hid j3
    clear Y4 Y6 Y5 j3
    have HEND : ∀ {W8 : World}, (Y.alloc (.cells #[.slice x.1.1 x.2.length x.1.2] 52)).grownBy W8 (Value.slice X pre.length cx).ownBlock → Has W8 w.heap.size 35 [.slice X pre.length cx] := fun {W8} hg => by
      have h1 : Has (Y.alloc (.cells #[.slice x.1.1 x.2.length x.1.2] 52)) w.heap.size 35 [.slice X pre.length cx] := HY4.out.alloc _
      exact h1.same (hg.block _ h1.lt (fun e => HY4.out.ne_own HY6.out (by decide) e.symm))
    have HY7 := Lib.hid (HY6.out.alloc (.cells #[.slice x.1.1 x.2.length x.1.2] 52))
    gi_wp2_with (first | ((refine wpListIn_app rfl (.tmp 8) (.tmp 10) _ rfl w1.heap.size 52 (.slice none 0 0) 1 24 Try.underlying35 infoSl rfl (by omega) (by omega) _ _ _ rfl HY7.out Y.heap.size [.slice x.1.1 x.2.length x.1.2] rfl rfl (news_new _ _ _) (fun u hu => by simp at hu; subst hu; rfl) (by omega) (by simp; omega) ?_; intro ga cap1 W8 hg1 hown1 hgrow1 hor1; have hb8 := HEND hgrow1; have e8 := hb8.cell 0; have f8 := hb8.free 0; have q8 := hb8.lt)) | fail)
    have hga := (hown1.lt ga rfl)
    have hsz8 : Y.heap.size < W8.heap.size := by have := hgrow1.size; simp at this; omega
    have hrow : ∀ r, (Value.slice X pre.length cx).ownBlock = some r → w1.heap.size ≤ r ∧ r < hi ∧ ∃ cs, Has Y r 52 cs := fun r hr => ⟨(HY6.out.lt r hr).1, HJ3.out r hr, own_cells2 HY6.out hr⟩
    have hsame : ∀ r, r < Y.heap.size → r ≠ w.heap.size → (Value.slice X pre.length cx).ownBlock ≠ some r → (W8.setCell ⟨w.heap.size, 0, none⟩ (.slice (some ⟨ga, 0, none⟩) (pre.length + 1) cap1)).heap[r]? = Y.heap[r]? := fun r hr h1 h2 => by
      refine (Below.heap_setCell W8 ⟨w.heap.size, 0, none⟩ _ r h1).trans ((hgrow1.block r (by simp; omega) (fun e => h2 e.symm)).trans (Below.heap_alloc Y _ r hr))
    have hint : ∀ (y : Lp) (B : Nat), Y.ownsRow B 3 1 (slV y) y.2.length (y.2.map vNat) → (W8.setCell ⟨w.heap.size, 0, none⟩ (.slice (some ⟨ga, 0, none⟩) (pre.length + 1) cap1)).ownsRow B 3 1 (slV y) y.2.length (y.2.map vNat) := fun y B hy => own_same hy (fun g hg => by
      obtain ⟨cs, hc⟩ := own_cells2 hy hg
      refine hsame g hc.lt (fun e => ?_) (fun e => ?_)
      · rw [e] at hc; exact absurd (HY4.out.of_type hc) (by decide)
      · obtain ⟨cs', hc'⟩ := (hrow g e).2.2
        exact absurd (hc.of_type hc') (by decide))
    refine ⟨((KeepsOthers.alloc _ _).trans (KeepsOthers.of_grownBy hgrow1 (fun j o hj ho => ?_))).trans (KeepsOthers.setCell _ _ _), ⟨?_, fun r hr _ hx => hsame r hr ?_ ?_⟩, ⟨⟨some ⟨ga, 0, none⟩, cap1, ?_, ?_, ?_⟩, ?_, ?_, ?_⟩⟩
    · obtain ⟨_, hc⟩ := own_cells2 HY7.out hj
      unfold Has at hc
      rw [hc] at ho
      injection ho with ho
      rw [← ho]; rfl
    · simp; omega
    · rcases hx with hx | hx | ⟨cs, hx⟩
      · exact hx.2
      · omega
      · exact fun e => by rw [e] at hx; exact absurd (HY4.out.of_type hx) (by decide)
    · intro e
      obtain ⟨k1, k2, cs', k3⟩ := hrow r e
      rcases hx with hx | hx | ⟨cs, hx⟩
      · omega
      · omega
      · exact absurd (k3.of_type hx) (by decide)
    · rw [List.length_append]; exact hb8.set 0 _
    · rw [List.length_append, List.map_append]
      exact own_same hown1 (fun g hg => Below.heap_setCell W8 ⟨w.heap.size, 0, none⟩ _ g (by obtain ⟨_, hc⟩ := own_cells2 hown1 hg; show g ≠ w.heap.size; intro e; subst e; exact absurd (hb8.of_type hc) (by decide)))
    · intro r hr
      have hr' : (Value.slice (some ⟨ga, 0, none⟩) (pre.length + 1) cap1).ownBlock = some r := by rw [← hr, List.length_append]; rfl
      have := (hown1.lt r hr').2
      simpa using this
    · intro y hy
      have hse : (W8.setCell ⟨w.heap.size, 0, none⟩ (.slice (some ⟨ga, 0, none⟩) (pre.length + 1) cap1)).heap.size = W8.heap.size := by simp [World.setCell]
      rcases List.mem_append.1 hy with hy | hy
      · exact ⟨hint y _ (Y7.out y hy).1, fun r hr => by rw [hse]; have := (Y7.out y hy).2 r hr; omega⟩
      · obtain rfl : y = x := by simpa using hy
        refine ⟨hint y _ (own_mono Y8.out j6), fun r hr => ?_⟩
        rw [hse]
        have := (Y8.out.lt r hr).2
        omega
    · exact ((HY5.out.alloc (by omega) _).grown hgrow1 (by simp; omega) (fun r hr => by have := (HY6.out.lt r hr).1; omega)).setCell (Nat.le_refl _) _
    · simp; omega
set_option maxRecDepth 100000 in
theorem collect33 (bx gs T : Nat) (nx : Nat → Nat) (ns : List Int) (w : World) (hS : Seam bx gs T nx ns w) :
    Calls Try.prog 33 #[.func (.func 54) #[] #[.pointer (some ⟨bx, 0, none⟩)]] w fun e w' => ∃ A n c, e = .returned (.slice A n c) ∧ RdL w' w'.heap.size A (Cyc.loops nx T) ∧ (Cyc.loops nx T).length = n ∧ n ≤ c ∧ c ≤ 9223372036854775807 ∧ Below w.heap.size w w' := by
  have C := Lib.hid (appendSeq51 bx gs T nx ns w hS)
  clear hS
  go_enter Try.func33, Try.ntmps33
  go_wp2_with fail
  refine C.out.mono ?_
  rintro e w1 ⟨A, n, c, rfl, h1, h2, h3, h4, h5⟩
  go_wp2
  go_ret
  exact ⟨A, n, c, rfl, h1, h2, h3, h4, h5⟩
end Go.Proofs.Ytdimfbmbomgiaaa
/-
  Contracts of (*seams.seam).loops and seams.Loops.
-/
namespace Go.Proofs.Ytdimfbmbomgiaaa
open Go.RowKit
set_option maxRecDepth 100000 in
theorem loops36 (gs : Nat) (w : World) : Calls Try.prog 36 #[.pointer (some ⟨gs, 0, none⟩)] w fun e w' => e = .returned (.func (.func 54) #[] #[.pointer (some ⟨w.heap.size, 0, none⟩)]) ∧ Has w' w.heap.size 69 [.pointer (some ⟨gs, 0, none⟩)] ∧ Below w.heap.size w w' := by
  go_enter Try.func36, Try.ntmps36
  go_wp2
  go_ret
  exact ⟨rfl, Has.new rfl, by go_grown⟩
/-- an ending: a list of lists in memory, and an error -/
def RetLE (ls : List (List Nat)) (err : Int) (w : World) (e : Ending) (w' : World) : Prop := ∃ A n c, e = .returned (.tuple #[.slice A n c, .int .i64 err]) ∧ RdL w' w'.heap.size A ls ∧ ls.length = n ∧ n ≤ c ∧ c ≤ 9223372036854775807 ∧ Below w.heap.size w w'
/-- the loops of a sheet and a shift: none where there is an error -/
def loopsR (p : Int) (ws : List Wk) (h : Int) : List (List Nat) := if seE p ws h = 0 then loopsS ws (2 * p).toNat h.toNat else []
theorem seE_zero {p h : Int} {ws : List Wk} (e : seE p ws h = 0) : schk p ws = 0 ∧ 0 ≤ h ∧ h < p := by
  unfold seE at e
  split at e
  · rename_i h1; exact absurd e h1
  · rename_i h1
    split at e
    · cases e
    · rename_i h2
      refine ⟨?_, by omega, by omega⟩
      exact Classical.byContradiction h1
theorem Seam.of {bx gs : Nat} {p : Int} {ws : List Wk} {h : Nat} {W : World} (hok : SOk p ws) (hb : Has W bx 69 [.pointer (some ⟨gs, 0, none⟩)]) (hs : Has W gs 96 ((nxL ws (2 * p).toNat h 48).map vInt ++ [vInt (((2 * p).toNat : Nat) : Int)])) : Seam bx gs (2 * p).toNat (nxS ws (2 * p).toNat h) (nxL ws (2 * p).toNat h 48) W := by
  have h48 : (2 * p).toNat ≤ 48 := by have := hok.le; omega
  exact ⟨h48, nxS_perm hok h, fun t ht => nxL_get ws (by omega) ht, nxL_len _ _ _ _, hb.cell 0, hs⟩
set_option maxRecDepth 100000 in
set_option maxHeartbeats 2000000 in
theorem loops16 (p : Int) (A : Option Addr) (n c : Nat) (h : Int) (ws : List Wk) (w : World) (hn : n ≤ 9223372036854775807) (hw : RdW w w.heap.size A ws) (hl : ws.length = n)
    (hs : ∀ x ∈ ws, x.word.size ≤ 9223372036854775807) :
    Calls Try.prog 16 #[.agg #[.int .i64 p, .slice A n c], .int .i64 h] w (RetLE (loopsR p ws h) (seE p ws h) w) := by
  have CA := Lib.hid (fun (W : World) (hb : Below w.heap.size w W) => asked31 p A n c h ws W hn (hw.up hb) hl hs)
  have K0 : Has (w.alloc (.cells #[.int .i64 p, .slice A n c] 24)) w.heap.size 24 [.int .i64 p, .slice A n c] := Has.new rfl
  by_cases hE : seE p ws h = 0
  case neg =>
    have e : loopsR p ws h = [] := by unfold loopsR; rw [if_neg hE]
    rw [e]
    have hd : (seE p ws h != 0) = true := by simpa using hE
    generalize seE p ws h = q at *
    clear hE e hw hl hs
    go_enter Try.func16, Try.ntmps16
    go_wp2_with fail
    refine (CA.out _ (by go_grown)).mono ?_
    rintro e w1 ⟨rfl, hb1⟩
    go_wp2
    go_ret2
    exact ⟨none, 0, 0, rfl, fun k l hk => by simp at hk, rfl, Nat.le_refl _, by omega, bvia (by go_grown) hb1⟩
  have hR : loopsR p ws h = loopsS ws (2 * p).toNat h.toNat := by unfold loopsR; rw [if_pos hE]
  obtain ⟨g1, g2, g3⟩ := seE_zero hE
  obtain ⟨H, rfl⟩ := Int.eq_ofNat_of_zero_le g2
  rw [show ((H : Nat) : Int).toNat = H by simp] at hR
  rw [hR]
  rw [hE] at CA ⊢
  have HOK := Lib.hid (schk_zero g1)
  have CE := Lib.hid (fun (W : World) (hb : Below w.heap.size w W) => ends35 p A n c ws W hn (hw.up hb) hl g1)
  have CS := Lib.hid (fun (A' : Option Addr) (c' : Nat) (W : World) (hr : RdI W W.heap.size A' (endL ws (2 * p).toNat)) => sewn34 p A A' n c c' H ws W hr g1 g3)
  have CC := Lib.hid (fun (bx gs : Nat) (W : World) (hS : Seam bx gs (2 * p).toNat (nxS ws (2 * p).toNat H) (nxL ws (2 * p).toNat H 48) W) => collect33 bx gs _ _ _ W hS)
  clear hE hR g1 g2 g3 hw hl hs
  go_enter Try.func16, Try.ntmps16
  go_wp2_with fail
  refine (CA.out _ (by go_grown)).mono ?_
  rintro e w1 ⟨rfl, hb1⟩
  have HB := Lib.hid (bvia (show Below w.heap.size w _ by go_grown) hb1)
  have HK := Lib.hid (K0.below hb1 K0.lt)
  have n0 : w1.cell? ⟨w.heap.size, 0, none⟩ = some (.int .i64 p) := HK.out.cell 0
  have n1 : w1.cell? ⟨w.heap.size, 1, none⟩ = some (.slice A n c) := HK.out.cell 1
  have q0 := HK.out.lt
  have HDN := Lib.hid HK.out.drew
  clear K0 hb1
  go_wp2
  go_region_held3 (fun W => W.cell? ⟨w.heap.size, 0, none⟩ = some (.int .i64 p) ∧ W.cell? ⟨w.heap.size, 1, none⟩ = some (.slice A n c)) (first | exact ⟨by assumption, by assumption⟩ | go_keep) (first
    | (go_simp; go_at_call 35; refine (CE.out _ (below_drewN HB.out _)).mono ?_; rintro e w3 ⟨A3, n3, c3, rfl, hr3, hl3, hn3, hc3, hb3⟩; rw [endL_len] at hl3; subst hl3; have HK3 := HDN.out.below hb3 HDN.out.lt; have m0 := HK3.cell 0; have m1 := HK3.cell 1; have B3 := (below_drewN HB.out 1).trans (hb3.mono (Nat.le_trans HB.out.size (Nat.le_refl _))))
    | (go_simp; go_at_call 34; refine (CS.out _ _ _ hr3).mono ?_; rintro e w4 ⟨g4, rfl, hg4, hG4, hb4⟩; have HK4 := HK3.below hb4 HK3.lt; have m2 := HK4.cell 0; have m3 := HK4.cell 1; have B4 := bvia B3 hb4)
    | (go_simp; go_at_call 36; refine (loops36 _ _).mono ?_; rintro e w5 ⟨rfl, hX5, hb5⟩; have HK5 := HK4.below hb5 HK4.lt; have m4 := HK5.cell 0; have m5 := HK5.cell 1; have B5 := bvia B4 hb5; have hS5 := Seam.of HOK.out hX5 (hG4.below hb5 hG4.lt))
    | (go_simp; go_at_call 33; refine (CC.out _ _ _ hS5).mono ?_; rintro e w6 ⟨A6, n6, c6, rfl, hr6, hl6, hn6, hc6, hb6⟩; have HK6 := HK5.below hb6 HK5.lt; have m6 := HK6.cell 0; have m7 := HK6.cell 1; have B6 := bvia B5 hb6)
    | fail)
  go_wp2
  go_ret2
  exact ⟨A6, n6, c6, rfl, hr6, hl6, hn6, hc6, B6⟩
end Go.Proofs.Ytdimfbmbomgiaaa
/-
  Contracts: torchonref04.SameInts (for seats without the sheets' words), the law's ints.
-/
namespace Go.Proofs.Ytdimfbmbomgiaaa
open Go.RowKit
theorem sameInts04 (A B : Option Addr) (n m c d : Nat) (xs ys : List Int) (w : World) (hn : n ≤ 9223372036854775807) (hm : m ≤ 9223372036854775807) (hx : RdI w w.heap.size A xs) (hy : RdI w w.heap.size B ys) (hl : xs.length = n) (hl' : ys.length = m) :
    Calls Try.prog 39 #[.slice A n c, .slice B m d] w fun e w' => e = .returned (.bool (xs == ys)) ∧ Below w.heap.size w w' := by
  have HX := Lib.hid hx; clear hx
  have HY := Lib.hid hy; clear hy
  have HL := Lib.hid hl; clear hl
  have HM := Lib.hid hl'; clear hl'
  by_cases hnm : n = m
  · subst hnm
    go_enter Try.func39, Try.ntmps39
    go_wp2
    go_loopw [5] (fun i wr => ∃ k : Nat, k ≤ n ∧ i = .int .i64 k ∧ Below w.heap.size w wr ∧ (∀ (j : Nat) (x : Int), j < k → xs[j]? = some x → ys[j]? = some x)) (fun i _ => n - (intOf i).toNat)
    case atStart => exact ⟨0, Nat.zero_le _, rfl, by go_grown, fun j _ hj => absurd hj (by omega)⟩
    case round =>
      obtain ⟨k, hk, rfl, hbw, hno⟩ := hrel
      have H := Lib.hid hno; clear hno
      by_cases hlt : k < n
      · obtain ⟨x, hx⟩ := get_of_lt (l := xs) (k := k) (by rw [HL.out]; exact hlt)
        obtain ⟨y, hy⟩ := get_of_lt (l := ys) (k := k) (by rw [HM.out]; exact hlt)
        obtain ⟨b, o, rfl, hb, c1⟩ := (HX.out.below hbw (Nat.le_refl _)) k x hx
        obtain ⟨b', o', rfl, hb', c1'⟩ := (HY.out.below hbw (Nat.le_refl _)) k y hy
        have HX' := Lib.hid hx; clear hx
        have HY' := Lib.hid hy; clear hy
        go_wp2
        go_quiet (fail)
        go_wp2
        · go_ret
          exact ⟨ret_bool (beq_false (ne_of_get HX'.out HY'.out (by simpa using ‹(x != y) = true›))), below_drewN hbw _⟩
        · go_roundw
          case rel => exact ⟨k + 1, by omega, by go_num, below_drewN hbw _, pw_step H.out HX'.out HY'.out (by simpa using ‹(x != y) = false›)⟩
          case measure => simp [intOf]; omega
      · go_wp2
        go_ret
        exact ⟨ret_bool (beq_true (eq_of_get (by rw [HL.out, HM.out]) (fun j x hx => H.out j x (by have := lt_of_get hx; rw [HL.out] at this; omega) hx))), hbw⟩
  · go_enter Try.func39, Try.ntmps39
    go_wp2
    go_ret
    exact ⟨ret_bool (beq_false (ne_of_len HL.out HM.out hnm)), by go_grown⟩
end Go.Proofs.Ytdimfbmbomgiaaa
