/-
  Contract of the law of chapter 21: parted.
-/
import Derived.Test.YtnijfkidgndbdaaPto
namespace Go.Proofs.Ytnijfkidgndbdaa
open Go.RowKit
theorem mkI2 (n : Nat) (hn : n ≤ 20000) (W : World) : (Instr.makeSlice 26 (.int .i64 (n : Int)) (.int .i64 (n : Int))).run Try.prog W = .ok (.slice (some ⟨W.heap.size, 0, none⟩) n n) (W.alloc (.cells (madeCells #[.int .i64 0] n) 3)) := by
  obtain ⟨i, hi, hz, hs, hb⟩ := info_parts infoInt
  have h := run_make (P := Try.prog) W 26 3 i (.int .i64 0) Try.underlying26 hi hz .i64 .i64 (n : Int) (n : Int) (by omega) (Int.le_refl _) (by rw [hb]; omega) (by omega)
  rw [hs] at h
  simpa [Value.cells] using h
set_option maxRecDepth 100000 in
set_option maxHeartbeats 16000000 in
theorem part38 (Tn : Nat) (A B D S : Option Addr) (n c m d e e2 : Nat) (xs ps : List Q4) (ds : List Int) (w : World) (hn : n ≤ 20000) (hm : m ≤ 9223372036854775807) (hx : RdQ w w.heap.size A xs) (hp : RdQ w w.heap.size B ps) (hd : RdI w w.heap.size D ds) (hs : RdI w w.heap.size S (overL xs ds))
    (hl : xs.length = n) (hl' : ps.length = m) (hlk : ds.length = Tn) (hE : chkE (Tn : Int) xs ps ds = 0) :
    Calls Try.prog 38 #[vCloth (Tn : Int) A n c B m d, .slice D Tn e, .slice S n e2] w fun e w' => e = .returned (.bool true) ∧ Below w.heap.size w w' := by
  obtain ⟨hck, _, _⟩ := chkE_ok hE
  have hT48 : Tn ≤ 48 := by have := (ckE_ok hck).2.1; omega
  have C1 := Lib.hid (fun (i : Nat) (hi : i < Tn) (W : World) (hb : Below w.heap.size w W) => shows32o Tn i A B n c m d xs ps W (by omega) hm (hx.up hb) (hp.up hb) hl hl' hck hi)
  have C2 := Lib.hid (fun (W : World) (hb : Below w.heap.size w W) => runs27 (Tn : Int) A B D n c m d Tn e xs ps ds W (by omega) hm (by omega) (hx.up hb) (hp.up hb) (hd.up hb) hl hl' hlk (by omega))
  have C3 := Lib.hid (fun (W : World) (hb : Below w.heap.size w W) => share35o (Tn : Int) A B D n c m d Tn e xs ps ds W (by omega) hm (by omega) (hx.up hb) (hp.up hb) (hd.up hb) hl hl' hlk (by omega) hE)
  have hR : runsR (Tn : Int) xs ps ds = runsTo (overL xs ds) n := by unfold runsR; rw [if_pos hE, hl]
  rw [hR, hE] at C2
  have HXC : Hid (∀ x ∈ xs, 0 ≤ x.c ∧ x.c < (Tn : Int)) := fun x h => (cross_ok hck x h).1.1
  have HSC := Lib.hid (over_col hE)
  have LS : Hid ((overL xs ds).length = n) := by show _ = n; simp [overL, hl]
  have HRO : Hid (RunsOk (overL xs ds) n (runsTo (overL xs ds) n)) := runs_ok (by rw [LS.out]; exact Nat.le_refl _)
  have HSV : Hid (∀ (p : Nat) (x : Q4), xs[p]? = some x → (overL xs ds)[p]? = some (ds.getD x.c.toNat 0)) := fun p x h => overL_get h
  have HN := Lib.hid hl
  have HK := Lib.hid hlk
  have HD := Lib.hid hd
  have HS := Lib.hid hs
  have hmk := mkI2 n hn
  have K0 : Has (w.alloc (.cells #[.int .i64 (Tn : Int), .slice A n c, .slice B m d] 25)) w.heap.size 25 [.int .i64 (Tn : Int), .slice A n c, .slice B m d] := Has.new rfl
  have hM0 : (markL xs 0 0).map vInt = List.replicate n (.int .i64 0) := by rw [markL_zero (fun x h => (HXC.out x h).1), HN.out]; simp
  have hG0 : Has ((w.alloc (.cells #[.int .i64 (Tn : Int), .slice A n c, .slice B m d] 25)).alloc (.cells (madeCells #[.int .i64 0] n) 3)) (w.heap.size + 1) 3 ((markL xs 0 0).map vInt) := Has.new2 (by rw [made_rep, hM0])
  have hC0 := K0.alloc (.cells (madeCells #[.int .i64 0] n) 3)
  have hB0 : Below w.heap.size w ((w.alloc (.cells #[.int .i64 (Tn : Int), .slice A n c, .slice B m d] 25)).alloc (.cells (madeCells #[.int .i64 0] n) 3)) := by go_grown
  have HG0 := Lib.hid hG0; have HC0 := Lib.hid hC0
  clear hG0 hC0 hM0 K0 hx hp hd hs hl hl' hlk hE hck hR
  generalize overL xs ds = la at *
  go_enter Try.func38, Try.ntmps38
  go_wp2
  obtain ⟨g, hg⟩ : ∃ g, g = w.heap.size + 1 := ⟨_, rfl⟩
  have hgw : w.heap.size < g := by omega
  rw [← hg] at HG0 ⊢
  clear hg hmk
  generalize (w.alloc (.cells #[.int .i64 (Tn : Int), .slice A n c, .slice B m d] 25)).alloc (.cells (madeCells #[.int .i64 0] n) 3) = w1 at *
  go_loopw [8] (fun i wr => ∃ T : Nat, T ≤ Tn ∧ i = .int .i64 (T : Int) ∧ Hid (Has wr g 3 ((markL xs T 0).map vInt)) ∧ Hid (Has wr w.heap.size 25 [.int .i64 (Tn : Int), .slice A n c, .slice B m d]) ∧ Below w.heap.size w wr) (fun i _ => Tn - (intOf i).toNat)
  case atStart => exact ⟨0, Nat.zero_le _, rfl, HG0, HC0, hB0⟩
  case round =>
    clear HG0 HC0 hB0
    obtain ⟨T, hT, rfl, HG, HC, hb⟩ := hrel
    obtain ⟨wo, rfl⟩ : ∃ wo : World, wo = wr := ⟨_, rfl⟩
    have a0 : wo.cell? ⟨w.heap.size, 0, none⟩ = some (.int .i64 (Tn : Int)) := HC.out.cell 0
    have a1 : wo.cell? ⟨w.heap.size, 1, none⟩ = some (.slice A n c) := HC.out.cell 1
    have a2 : wo.cell? ⟨w.heap.size, 2, none⟩ = some (.slice B m d) := HC.out.cell 2
    have q := HC.out.lt
    have qg := HG.out.lt
    by_cases hlt : T < Tn
    · have hlt' : (T : Int) < (Tn : Int) := by omega
      go_wp2_with fail
      refine (C1.out T hlt _ hb).mono ?_
      rintro e' w2 ⟨A2, n2, c2, rfl, hR2, hl2, hb2⟩
      have HR2 := Lib.hid hR2; clear hR2
      have HL2 := Lib.hid hl2
      have HG2 := Lib.hid (HG.out.below hb2 qg)
      have HC2 := Lib.hid (HC.out.below hb2 q)
      have B2 := bvia hb hb2
      have hz2 := hb2.size
      obtain ⟨Z, hZ⟩ : ∃ Z, Z = wo.heap.size := ⟨_, rfl⟩
      rw [← hZ] at HR2
      have hgZ : g < Z := by omega
      have hn2 : n2 ≤ 20000 := by have := showsTo_len xs (T : Int) n; rw [hl2] at this; omega
      have HLE : Hid ((showsTo xs (T : Int) xs.length).length ≤ n2) := by show _ ≤ _; rw [HN.out, hl2]; exact Nat.le_refl _
      clear HG HC a0 a1 a2 hb2 hl2 hb q qg hZ hz2
      go_wp2
      go_loopw [11] (fun i wr => ∃ l : Nat, l ≤ n2 ∧ i = .int .i64 (l : Int) ∧ Hid (Has wr g 3 ((markL xs T l).map vInt)) ∧ Hid (Has wr w.heap.size 25 [.int .i64 (Tn : Int), .slice A n c, .slice B m d]) ∧ Below w.heap.size w wr ∧ Hid (wr.ownsRow Z 3 1 (.slice A2 n2 c2) n2 ((showsTo xs (T : Int) n).map vInt))) (fun i _ => n2 - (intOf i).toNat)
      case atStart => exact ⟨0, Nat.zero_le _, rfl, HG2, HC2, B2, HR2⟩
      case round =>
        clear HG2 HC2 B2 HR2
        obtain ⟨l, hll, rfl, HG, HC, hb, HR⟩ := hrel
        obtain ⟨wo, rfl⟩ : ∃ wo : World, wo = wr := ⟨_, rfl⟩
        have qg := HG.out.lt
        by_cases hlt2 : l < n2
        · obtain ⟨v, hv⟩ := get_of_lt (l := showsTo xs (T : Int) n) (k := l) (by rw [HL2.out]; exact hlt2)
          obtain ⟨p, x', rfl, _, _, _⟩ := showsTo_mem (mem_of_get hv)
          obtain ⟨b2, o2, rfl, hb2, c0⟩ := own_rd1 HR.out _ _ hv
          rw [← HN.out] at hv
          obtain ⟨x, hxp, hxc, hpl, hm0, hms⟩ := mark_at hv
          rw [HN.out] at hpl
          have e1 : wo.cell? ⟨g, p, none⟩ = some (.int .i64 0) := (HG.out.cell p).trans (by rw [List.getElem?_map, hm0]; rfl)
          obtain ⟨y, hy⟩ := get_of_lt (l := ds) (k := T) (by rw [HK.out]; exact hlt)
          have hsv := HSV.out p x hxp
          rw [hxc, show ((T : Nat) : Int).toNat = T by simp, List.getD_eq_getElem?_getD, hy, Option.getD_some] at hsv
          obtain ⟨bs, os, rfl, hbs, s0⟩ := HS.out p y hsv
          obtain ⟨bd, od, rfl, hbd, d0⟩ := HD.out T y hy
          have e2 := (hb.cell (p := ⟨bs, os + p, none⟩) hbs).trans s0
          have e3 := (hb.cell (p := ⟨bd, od + T, none⟩) hbd).trans d0
          have HMS := Lib.hid hms
          have ip : (p : Int) < (n : Int) := by omega
          have il : (l : Int) < (n2 : Int) := by omega
          have iT : (T : Int) < (Tn : Int) := by omega
          have P1 : decide ((p : Int) < 0) = false := decide_eq_false (by omega)
          have P2 : decide ((n : Int) ≤ (p : Int)) = false := decide_eq_false (by omega)
          have P3 : decide (n ≤ p) = false := decide_eq_false (by omega)
          have P4 : decide (p < n) = true := decide_eq_true (by omega)
          have z1 : bs < wo.heap.size := Nat.lt_of_lt_of_le hbs hb.size
          have z3 : bd < wo.heap.size := Nat.lt_of_lt_of_le hbd hb.size
          clear hv hxp hxc hm0 hms hy hsv s0 d0
          go_wp2
          have hxc := fun (x : Ext wo) => x.cell
          refine wp_region_ext (by kernel_rfl) (by kernel_rfl) ?_
          repeat (go_big_quiet_step (fail))
          refine wpQuiet_nil ?_
          intro w6 hw'
          have hb6 := ext_below hw'; clear hw' hxc
          have c0' := (hb6.cell (p := ⟨b2, o2 + l, none⟩) hb2).trans c0
          have HG6 := Lib.hid (HG.out.below hb6 qg)
          have HC6 := Lib.hid (HC.out.below hb6 HC.out.lt)
          have B6 := bvia hb hb6
          have R6 := Lib.hid (own_below HR.out hb6)
          have f6 := HG6.out.free p
          have g6 : w6.cell? ⟨g, p, none⟩ = some (.int .i64 0) := (hb6.cell (p := ⟨g, p, none⟩) qg).trans e1
          have qg6 := HG6.out.lt
          clear c0 e1 e2 e3 hb6 z1 z3
          go_wp2
          go_roundw
          case rel =>
            have hG7 := HG6.out.set p (.int .i64 1)
            have e7 : ((markL xs T l).map vInt).set p (.int .i64 1) = (markL xs T (l + 1)).map vInt := by rw [HMS.out, List.map_set]
            rw [e7] at hG7
            exact ⟨l + 1, by omega, by go_num, Lib.hid hG7, Lib.hid (HC6.out.far (by omega) _ _), B6.setCell (by simp; omega) _, Lib.hid (ownsRow_setCell_below R6.out (by simpa using hgZ) _)⟩
          case measure => first | (simp [intOf]; done) | (simp [intOf]; omega)
        · obtain rfl : n2 = l := by omega
          have hG7 := HG.out
          rw [markL_next xs T HLE.out] at hG7
          have HG7 := Lib.hid hG7; clear hG7
          go_wp2
          go_roundw
          case rel => exact ⟨T + 1, by omega, by go_num, HG7, HC, hb⟩
          case measure => first | (simp [intOf]; done) | (simp [intOf]; omega)
    · obtain rfl : Tn = T := by omega
      have HMA : Hid (∀ p, p < n → (markL xs Tn 0)[p]? = some 1) := fun p hp => mark_all (fun x h => (HXC.out x h).2) (by rw [HN.out]; exact hp)
      clear HXC HSV C1
      go_wp2_with fail
      refine (C2.out _ hb).mono ?_
      rintro e' w3 ⟨A3, n3, c3, rfl, r3, l3, hb3⟩
      have RR := Lib.hid (own_rdR r3); clear r3
      have HL3 := Lib.hid l3
      have hn3 : n3 ≤ 20000 := by have := runsTo_len la n; rw [l3] at this; omega
      replace HG := Lib.hid (HG.out.below hb3 qg)
      replace HC := Lib.hid (HC.out.below hb3 q)
      have B3 := bvia hb hb3
      clear hb3 hb a0 a1 a2 q qg l3 C2
      have a0 : w3.cell? ⟨w.heap.size, 0, none⟩ = some (.int .i64 (Tn : Int)) := HC.out.cell 0
      have a1 : w3.cell? ⟨w.heap.size, 1, none⟩ = some (.slice A n c) := HC.out.cell 1
      have a2 : w3.cell? ⟨w.heap.size, 2, none⟩ = some (.slice B m d) := HC.out.cell 2
      have q := HC.out.lt
      have qg := HG.out.lt
      go_wp2_with fail
      refine (C3.out _ B3).mono ?_
      rintro e' w4 ⟨gs, rfl, hgs, hsh, hb4⟩
      have HB4 := Lib.hid hb4
      have B4 := bvia B3 hb4
      have HH4 : Hid (Has w4 gs 68 ((leftS la n 0).map vInt)) := by rw [leftS_zero]; exact hsh
      have hz4 := hb4.size
      have hgs4 := hsh.lt
      clear hb4 hsh a0 a1 a2 q C3
      go_wp2
      go_loopw [16, 17] (fun v i wr => ∃ (j p : Nat), j ≤ n3 ∧ p ≤ n ∧ i = .int .i64 (j : Int) ∧ v = .int .i64 (p : Int) ∧ Hid (∀ r, (runsTo la n)[j]? = some r → r.f = (p : Int)) ∧ (j = n3 → p = n) ∧ Hid (Has wr gs 68 ((leftS la n p).map vInt)) ∧ But gs w4 wr) (fun _ i _ => n3 - (intOf i).toNat)
      case atStart =>
        refine ⟨0, 0, Nat.zero_le _, Nat.zero_le _, rfl, rfl, Lib.hid (fun r h => HRO.out.zero r h), fun h => ?_, HH4, But.refl _ _⟩
        have := HRO.out.none (List.eq_nil_of_length_eq_zero (by rw [HL3.out]; exact h.symm))
        exact this.symm
      case round =>
        clear HH4
        obtain ⟨j, p, hj, hpn, rfl, rfl, HF, hend, HH, hbt⟩ := hrel
        obtain ⟨wo, rfl⟩ : ∃ wo : World, wo = wr := ⟨_, rfl⟩
        have hzt := hbt.size
        by_cases hlt : j < n3
        · obtain ⟨r, hr⟩ := get_of_lt (l := runsTo la n) (k := j) (by rw [HL3.out]; exact hlt)
          obtain ⟨f, mm, x1, x2, x3, x4, x5, x6, x7⟩ := HRO.out.each j r hr
          have hfp : f = p := by have := HF.out r hr; rw [x1] at this; omega
          subst hfp
          obtain ⟨bu, ou, hA3, hbu, u0, u1, u2⟩ := RR.out j r hr
          rw [x1] at u1
          rw [x2] at u2
          have X5 := Lib.hid x5
          have X6 := Lib.hid x6
          have X7 : Hid (j + 1 = n3 → f + mm = n) := fun h => x7 (by rw [HL3.out]; exact h)
          have ne0 : bu ≠ gs := by omega
          have y0 := (hbt.cell (o := ou + j * 3) (by omega) ne0).trans ((HB4.out.cell (p := ⟨bu, ou + j * 3, none⟩) hbu).trans u0)
          have y1 := (hbt.cell (o := ou + j * 3 + 1) (by omega) ne0).trans ((HB4.out.cell (p := ⟨bu, ou + j * 3 + 1, none⟩) hbu).trans u1)
          have y2 := (hbt.cell (o := ou + j * 3 + 2) (by omega) ne0).trans ((HB4.out.cell (p := ⟨bu, ou + j * 3 + 2, none⟩) hbu).trans u2)
          have zu : bu < wo.heap.size := by omega
          have jn : (j : Int) < (n3 : Int) := by omega
          have q1 : decide ((mm : Int) < 1) = false := decide_eq_false (by omega)
          have q2 : IntKind.i64.wrap ((n : Int) - (f : Int)) = (n : Int) - (f : Int) := IntWalk.i64_in _ (by omega)
          have q3 : decide ((n : Int) - (f : Int) < (mm : Int)) = false := decide_eq_false (by omega)
          have q4 : IntKind.i64.wrap ((f : Int) + (mm : Int)) = (f : Int) + (mm : Int) := IntWalk.i64_in _ (by omega)
          obtain ⟨cc, hcc⟩ : ∃ cc, cc = r.c := ⟨_, rfl⟩
          rw [← hcc] at y0
          have HCC : Hid (∀ r', (runsTo la n)[j + 1]? = some r' → r'.f = ((f + mm : Nat) : Int)) := fun r' h => (X6.out r' h).1
          have HLC : Hid (∀ p, f ≤ p → p < f + mm → la[p]? = some cc) := fun p h1 h2 => by rw [hcc]; exact X5.out p h1 h2
          have HRJ := Lib.hid hr
          clear u0 u1 u2 x1 x2 x5 x6 x7 HF hend X5 X6 hr
          by_cases h0 : j = 0
          · have d0 : decide ((0 : Int) < (j : Int)) = false := decide_eq_false (by omega)
            have d0' : decide (0 < j) = false := decide_eq_false (by omega)
            subst hA3
            clear hcc h0
            go_wp2
            obtain ⟨gr, hgr⟩ : ∃ gr, gr = wo.heap.size := ⟨_, rfl⟩
            obtain ⟨w5, hw5⟩ : ∃ w5, w5 = wo.alloc (.cells #[.int .i64 cc, .int .i64 (f : Int), .int .i64 (mm : Int)] 43) := ⟨_, rfl⟩
            rw [← hw5, ← hgr]
            have hb5 : Below wo.heap.size wo w5 := by rw [hw5]; go_grown
            have K5 : Has w5 gr 43 [.int .i64 cc, .int .i64 (f : Int), .int .i64 (mm : Int)] := by rw [hw5, hgr]; exact Has.new rfl
            have k0 : w5.cell? ⟨gr, 0, none⟩ = some (.int .i64 cc) := K5.cell 0
            have k1 : w5.cell? ⟨gr, 1, none⟩ = some (.int .i64 (f : Int)) := K5.cell 1
            have k2 : w5.cell? ⟨gr, 2, none⟩ = some (.int .i64 (mm : Int)) := K5.cell 2
            have qr := K5.lt
            have zu5 : bu < w5.heap.size := Nat.lt_of_lt_of_le zu hb5.size
            have HH5 := Lib.hid (HH.out.below hb5 HH.out.lt)
            have hbt5 := hbt.trans (But.of_below (g := gs) hb5)
            have KK5 := Lib.hid K5
            have hgr4 : w4.heap.size ≤ gr := by omega
            clear hw5 hb5 K5 y0 y1 y2 zu hbt HH hgr hzt
            have hxc := fun (x : Ext w5) => x.cell
            refine wp_region_ext (by kernel_rfl) (by kernel_rfl) ?_
            repeat (go_big_quiet_step (fail))
            refine wpQuiet_nil ?_
            intro w6 hw'
            have hb6 := ext_below hw'; clear hw' hxc
            have HH6 := Lib.hid (HH5.out.below hb6 HH5.out.lt)
            have hbt6 := hbt5.trans (But.of_below (g := gs) hb6)
            have KK6 := Lib.hid (KK5.out.below hb6 qr)
            clear k0 k1 k2 qr hb6 HH5 hbt5 KK5 zu5
            go_wp2
            go_loopw [19] (fun i wr => ∃ p : Nat, f ≤ p ∧ p ≤ f + mm ∧ i = .int .i64 (p : Int) ∧ Hid (Has wr gs 68 ((leftS la n p).map vInt)) ∧ Hid (Has wr gr 43 [.int .i64 cc, .int .i64 (f : Int), .int .i64 (mm : Int)]) ∧ But gs w4 wr) (fun i _ => f + mm - (intOf i).toNat)
            case atStart => exact ⟨f, Nat.le_refl _, by omega, rfl, HH6, KK6, hbt6⟩
            case round =>
              clear HH6 KK6 hbt6
              obtain ⟨p, hfp, hpm, rfl, HH, KK, hbt⟩ := hrel
              obtain ⟨wo, rfl⟩ : ∃ wo : World, wo = wr := ⟨_, rfl⟩
              have k0 : wo.cell? ⟨gr, 0, none⟩ = some (.int .i64 cc) := KK.out.cell 0
              have k2 : wo.cell? ⟨gr, 2, none⟩ = some (.int .i64 (mm : Int)) := KK.out.cell 2
              have qr := KK.out.lt
              by_cases hlt : p < f + mm
              · have pn : p < n := by omega
                have pn' : (p : Int) < (n : Int) := by omega
                have d1 : decide ((p : Int) < (f : Int) + (mm : Int)) = true := decide_eq_true (by omega)
                have hlp := HLC.out p hfp hlt
                obtain ⟨h0, h1⟩ := HSC.out cc (mem_of_get hlp)
                obtain ⟨ct, rfl⟩ := Int.eq_ofNat_of_zero_le h0
                have hct : ct < 16 := by omega
                have hct' : (ct : Int) < 16 := h1
                obtain ⟨bs, os, rfl, hbs, s0⟩ := HS.out p _ hlp
                have ne1 : bs ≠ gs := by have := B3.size; omega
                have ne2 : g ≠ gs := by omega
                have zs4 : bs < w4.heap.size := Nat.lt_of_lt_of_le hbs B4.size
                have e1 : wo.cell? ⟨g, p, none⟩ = some (.int .i64 1) := (hbt.cell (by omega) ne2).trans ((HB4.out.cell (p := ⟨g, p, none⟩) qg).trans ((HG.out.cell p).trans (by rw [List.getElem?_map, HMA.out p pn]; rfl)))
                have e2 := (hbt.cell (o := os + p) zs4 ne1).trans ((B4.cell (p := ⟨bs, os + p, none⟩) hbs).trans s0)
                obtain ⟨v, hv⟩ := get_of_lt (l := leftS la n p) (k := ct) (by rw [leftS_len]; exact hct)
                have hvb := leftS_le v (mem_of_get hv)
                have iw : IntKind.i64.wrap (v - 1) = v - 1 := IntWalk.i64_in _ (by omega)
                have HSS := Lib.hid (leftS_succ hct hlp hv)
                have zz := hbt.size
                have z1 : bs < wo.heap.size := Nat.lt_of_lt_of_le zs4 zz
                have z2 : g < wo.heap.size := by omega
                have HV := Lib.hid hv
                clear hlp h0 h1 s0 hvb hv
                go_wp2
                have hxc := fun (x : Ext wo) => x.cell
                refine wp_region_ext (by kernel_rfl) (by kernel_rfl) ?_
                repeat (go_big_quiet_step (fail))
                refine wpQuiet_nil ?_
                intro w7 hw'
                have hb7 := ext_below hw'; clear hw' hxc
                have HH7 := Lib.hid (HH.out.below hb7 HH.out.lt)
                have KK7 := Lib.hid (KK.out.below hb7 qr)
                have hbt7 := hbt.trans (But.of_below (g := gs) hb7)
                have e2' := (hb7.cell (p := ⟨bs, os + p, none⟩) z1).trans e2
                have g7 : w7.cell? ⟨gs, ct, none⟩ = some (.int .i64 v) := (HH7.out.cell ct).trans (by rw [List.getElem?_map, HV.out]; rfl)
                have f7 := HH7.out.free ct
                have q7 := HH7.out.lt
                have ner : gr ≠ gs := by omega
                clear e1 e2 hb7 HH KK hbt k0 k2 qr z1 z2
                go_wp2
                go_roundw
                case rel =>
                  have h8 := HH7.out.set ct (.int .i64 (v - 1))
                  have e8 : ((leftS la n p).map vInt).set ct (.int .i64 (v - 1)) = (leftS la n (p + 1)).map vInt := by rw [HSS.out, List.map_set]
                  rw [e8] at h8
                  exact ⟨p + 1, by omega, by omega, by go_num, Lib.hid h8, Lib.hid (KK7.out.far ner _ _), hbt7.trans (But.set _ _ _ _)⟩
                case measure => first | (simp [intOf]; done) | (simp [intOf]; omega)
              · obtain rfl : p = f + mm := by omega
                have d1 : decide (((f + mm : Nat) : Int) < (f : Int) + (mm : Int)) = false := decide_eq_false (by omega)
                simp only [Int.natCast_add] at d1
                go_wp2
                go_roundw
                case rel => exact ⟨j + 1, f + mm, by omega, by omega, by go_num, by go_num, Lib.hid (fun r h => HCC.out r h), X7.out, HH, hbt⟩
                case measure => first | (simp [intOf]; done) | (simp [intOf]; omega)
          · have d0 : decide ((0 : Int) < (j : Int)) = true := decide_eq_true (by omega)
            have d0' : decide (0 < j) = true := decide_eq_true (by omega)
            obtain ⟨k, hk⟩ : ∃ k : Nat, j = k + 1 := ⟨j - 1, by omega⟩
            obtain ⟨r0, hr0⟩ := get_of_lt (l := runsTo la n) (k := k) (by rw [HL3.out]; omega)
            obtain ⟨f0, m0, _, _, _, _, _, v6, _⟩ := HRO.out.each k r0 hr0
            have hne : (cc == r0.c) = false := by
              rw [hcc]
              have := (v6 r (by rw [← hk]; exact HRJ.out)).2
              simpa using this
            obtain ⟨bu', ou', hA3', hbu', t0, _, _⟩ := RR.out k r0 hr0
            rw [hA3] at hA3'
            injection hA3' with hA3'; injection hA3' with ea eb
            subst ea eb
            have y3 := (hbt.cell (o := ou + k * 3) (by omega) ne0).trans ((HB4.out.cell (p := ⟨bu, ou + k * 3, none⟩) hbu).trans t0)
            have jk : IntKind.i64.wrap ((j : Int) - 1) = (k : Int) := by rw [hk]; rw [IntWalk.i64_in _ (by omega)]; omega
            have kn : (k : Int) < (n3 : Int) := by omega
            subst hA3
            clear hcc h0 hr0 v6 t0 hk
            go_wp2
            obtain ⟨gr, hgr⟩ : ∃ gr, gr = wo.heap.size := ⟨_, rfl⟩
            obtain ⟨w5, hw5⟩ : ∃ w5, w5 = wo.alloc (.cells #[.int .i64 cc, .int .i64 (f : Int), .int .i64 (mm : Int)] 43) := ⟨_, rfl⟩
            rw [← hw5, ← hgr]
            have hb5 : Below wo.heap.size wo w5 := by rw [hw5]; go_grown
            have K5 : Has w5 gr 43 [.int .i64 cc, .int .i64 (f : Int), .int .i64 (mm : Int)] := by rw [hw5, hgr]; exact Has.new rfl
            have k0 : w5.cell? ⟨gr, 0, none⟩ = some (.int .i64 cc) := K5.cell 0
            have k1 : w5.cell? ⟨gr, 1, none⟩ = some (.int .i64 (f : Int)) := K5.cell 1
            have k2 : w5.cell? ⟨gr, 2, none⟩ = some (.int .i64 (mm : Int)) := K5.cell 2
            have qr := K5.lt
            have y4 := (hb5.cell (p := ⟨bu, ou + k * 3, none⟩) zu).trans y3
            have zu5 : bu < w5.heap.size := Nat.lt_of_lt_of_le zu hb5.size
            have HH5 := Lib.hid (HH.out.below hb5 HH.out.lt)
            have hbt5 := hbt.trans (But.of_below (g := gs) hb5)
            have KK5 := Lib.hid K5
            have hgr4 : w4.heap.size ≤ gr := by omega
            clear hw5 hb5 K5 y0 y1 y2 zu hbt HH hgr hzt
            have hxc := fun (x : Ext w5) => x.cell
            refine wp_region_ext (by kernel_rfl) (by kernel_rfl) ?_
            repeat (go_big_quiet_step (fail))
            refine wpQuiet_nil ?_
            intro w6 hw'
            have hb6 := ext_below hw'; clear hw' hxc
            have HH6 := Lib.hid (HH5.out.below hb6 HH5.out.lt)
            have hbt6 := hbt5.trans (But.of_below (g := gs) hb6)
            have KK6 := Lib.hid (KK5.out.below hb6 qr)
            clear k0 k1 k2 qr hb6 HH5 hbt5 KK5 zu5 y3 y4
            go_wp2
            go_loopw [19] (fun i wr => ∃ p : Nat, f ≤ p ∧ p ≤ f + mm ∧ i = .int .i64 (p : Int) ∧ Hid (Has wr gs 68 ((leftS la n p).map vInt)) ∧ Hid (Has wr gr 43 [.int .i64 cc, .int .i64 (f : Int), .int .i64 (mm : Int)]) ∧ But gs w4 wr) (fun i _ => f + mm - (intOf i).toNat)
            case atStart => exact ⟨f, Nat.le_refl _, by omega, rfl, HH6, KK6, hbt6⟩
            case round =>
              clear HH6 KK6 hbt6
              obtain ⟨p, hfp, hpm, rfl, HH, KK, hbt⟩ := hrel
              obtain ⟨wo, rfl⟩ : ∃ wo : World, wo = wr := ⟨_, rfl⟩
              have k0 : wo.cell? ⟨gr, 0, none⟩ = some (.int .i64 cc) := KK.out.cell 0
              have k2 : wo.cell? ⟨gr, 2, none⟩ = some (.int .i64 (mm : Int)) := KK.out.cell 2
              have qr := KK.out.lt
              by_cases hlt : p < f + mm
              · have pn : p < n := by omega
                have pn' : (p : Int) < (n : Int) := by omega
                have d1 : decide ((p : Int) < (f : Int) + (mm : Int)) = true := decide_eq_true (by omega)
                have hlp := HLC.out p hfp hlt
                obtain ⟨h0, h1⟩ := HSC.out cc (mem_of_get hlp)
                obtain ⟨ct, rfl⟩ := Int.eq_ofNat_of_zero_le h0
                have hct : ct < 16 := by omega
                have hct' : (ct : Int) < 16 := h1
                obtain ⟨bs, os, rfl, hbs, s0⟩ := HS.out p _ hlp
                have ne1 : bs ≠ gs := by have := B3.size; omega
                have ne2 : g ≠ gs := by omega
                have zs4 : bs < w4.heap.size := Nat.lt_of_lt_of_le hbs B4.size
                have e1 : wo.cell? ⟨g, p, none⟩ = some (.int .i64 1) := (hbt.cell (by omega) ne2).trans ((HB4.out.cell (p := ⟨g, p, none⟩) qg).trans ((HG.out.cell p).trans (by rw [List.getElem?_map, HMA.out p pn]; rfl)))
                have e2 := (hbt.cell (o := os + p) zs4 ne1).trans ((B4.cell (p := ⟨bs, os + p, none⟩) hbs).trans s0)
                obtain ⟨v, hv⟩ := get_of_lt (l := leftS la n p) (k := ct) (by rw [leftS_len]; exact hct)
                have hvb := leftS_le v (mem_of_get hv)
                have iw : IntKind.i64.wrap (v - 1) = v - 1 := IntWalk.i64_in _ (by omega)
                have HSS := Lib.hid (leftS_succ hct hlp hv)
                have zz := hbt.size
                have z1 : bs < wo.heap.size := Nat.lt_of_lt_of_le zs4 zz
                have z2 : g < wo.heap.size := by omega
                have HV := Lib.hid hv
                clear hlp h0 h1 s0 hvb hv
                go_wp2
                have hxc := fun (x : Ext wo) => x.cell
                refine wp_region_ext (by kernel_rfl) (by kernel_rfl) ?_
                repeat (go_big_quiet_step (fail))
                refine wpQuiet_nil ?_
                intro w7 hw'
                have hb7 := ext_below hw'; clear hw' hxc
                have HH7 := Lib.hid (HH.out.below hb7 HH.out.lt)
                have KK7 := Lib.hid (KK.out.below hb7 qr)
                have hbt7 := hbt.trans (But.of_below (g := gs) hb7)
                have e2' := (hb7.cell (p := ⟨bs, os + p, none⟩) z1).trans e2
                have g7 : w7.cell? ⟨gs, ct, none⟩ = some (.int .i64 v) := (HH7.out.cell ct).trans (by rw [List.getElem?_map, HV.out]; rfl)
                have f7 := HH7.out.free ct
                have q7 := HH7.out.lt
                have ner : gr ≠ gs := by omega
                clear e1 e2 hb7 HH KK hbt k0 k2 qr z1 z2
                go_wp2
                go_roundw
                case rel =>
                  have h8 := HH7.out.set ct (.int .i64 (v - 1))
                  have e8 : ((leftS la n p).map vInt).set ct (.int .i64 (v - 1)) = (leftS la n (p + 1)).map vInt := by rw [HSS.out, List.map_set]
                  rw [e8] at h8
                  exact ⟨p + 1, by omega, by omega, by go_num, Lib.hid h8, Lib.hid (KK7.out.far ner _ _), hbt7.trans (But.set _ _ _ _)⟩
                case measure => first | (simp [intOf]; done) | (simp [intOf]; omega)
              · obtain rfl : p = f + mm := by omega
                have d1 : decide (((f + mm : Nat) : Int) < (f : Int) + (mm : Int)) = false := decide_eq_false (by omega)
                simp only [Int.natCast_add] at d1
                go_wp2
                go_roundw
                case rel => exact ⟨j + 1, f + mm, by omega, by omega, by go_num, by go_num, Lib.hid (fun r h => HCC.out r h), X7.out, HH, hbt⟩
                case measure => first | (simp [intOf]; done) | (simp [intOf]; omega)
        · obtain rfl : n3 = j := by omega
          obtain rfl : n = p := (hend rfl).symm
          have HZ : Hid (∀ i, i < 16 → wo.cell? ⟨gs, i, none⟩ = some (.int .i64 0)) := fun i hi => by rw [HH.out.cell, List.getElem?_map, leftS_end la n i hi]; rfl
          have qgs := HH.out.lt
          have BF : Below w.heap.size w wo := B4.trans (hbt.below (by have := B3.size; omega) B4.size)
          clear HH HF hbt HRO RR HMA HG HC HS HD HK HSC HB4 B4 B3
          go_wp2
          go_loopw [20] (fun i wr => ∃ j : Nat, j ≤ 16 ∧ i = .int .i64 (j : Int) ∧ Below wo.heap.size wo wr) (fun i _ => 16 - (intOf i).toNat)
          case atStart => exact ⟨0, Nat.zero_le _, rfl, Below.refl _ _⟩
          case round =>
            obtain ⟨j, hj, rfl, hc⟩ := hrel
            obtain ⟨wq, rfl⟩ : ∃ wq : World, wq = wr := ⟨_, rfl⟩
            by_cases hlt : j < 16
            · have e0 := (hc.cell (p := ⟨gs, j, none⟩) qgs).trans (HZ.out j hlt)
              have j1 : (j : Int) < 16 := by omega
              go_wp2
              go_roundw
              case rel => exact ⟨j + 1, by omega, by go_num, hc⟩
              case measure => first | (simp [intOf]; done) | (simp [intOf]; omega)
            · obtain rfl : 16 = j := by omega
              go_wp2
              go_ret
              exact ⟨rfl, bvia BF hc⟩
end Go.Proofs.Ytnijfkidgndbdaa
