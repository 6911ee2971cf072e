/-
  Walk of the law SeamsBack.
-/
import Derived.Test.YtdimfbmbomgiaaaVG18
import Derived.Test.YtdimfbmbomgiaaaVG19
import Derived.Laws.StructEq
namespace Go.Proofs.Ytdimfbmbomgiaaa
open Go.RowKit
theorem trail_congr {nx nx' : Nat → Nat} {T : Nat} (h : ∀ t, t < T → nx t = nx' t) (hlt : ∀ t, t < T → nx t < T) : ∀ f s k, k < T → Cyc.trail nx f s k = Cyc.trail nx' f s k
  | 0, _, _, _ => rfl
  | f + 1, s, k, hk => by
    cases hs : s k with
    | true => rw [trail_true hs, trail_true hs]
    | false => rw [trail_false hs, trail_false hs, ← h k hk, trail_congr h hlt f _ _ (hlt k hk)]
theorem loopsTo_congr {nx nx' : Nat → Nat} {T : Nat} (h : ∀ t, t < T → nx t = nx' t) (hlt : ∀ t, t < T → nx t < T) : ∀ j, j ≤ T → Cyc.loopsTo nx T j = Cyc.loopsTo nx' T j
  | 0, _ => rfl
  | j + 1, hj => by
    show (_, _) = (_, _)
    rw [← loopsTo_congr h hlt j (by omega), trail_congr h hlt T _ j (by omega)]
theorem loops_congr {nx nx' : Nat → Nat} {T : Nat} (h : ∀ t, t < T → nx t = nx' t) (hlt : ∀ t, t < T → nx t < T) : Cyc.loops nx T = Cyc.loops nx' T := by
  unfold Cyc.loops; rw [loopsTo_congr h hlt T (Nat.le_refl _)]
theorem loopsR_reo {p h : Int} {ws : List Wk} {ord : List Int} (hok : SOk p ws) (ho : ordB ws ord = true) : loopsR p (reW ws ord) h = loopsR p ws h ∧ seE p (reW ws ord) h = seE p ws h := by
  have hok2 := reW_ok hok ho
  have e1 : seE p (reW ws ord) h = seE p ws h := by
    unfold seE; rw [schk_of hok, schk_of hok2]
  refine ⟨?_, e1⟩
  unfold loopsR
  rw [e1]
  split
  · unfold loopsS
    exact loops_congr (fun t ht => nxS_reo hok ho ht) (fun t ht => (nxS_perm hok2 _).lt t ht)
  · rfl
theorem per_zero {p : Int} {ws : List Wk} (hok : SOk p ws) : seE p ws 0 = 0 := by
  unfold seE; rw [if_neg (by rw [schk_of hok]; simp), if_neg (by have := hok.ge; omega)]
/-- repeated as often as the period says: the ends are as the beginning -/
theorem rep_ends {P : Nat} {ws : List Wk} (hok : SOk (P : Int) ws) {N : Nat} (hN : Cyc.per (nxS ws (2 * (P : Int)).toNat 0) (2 * (P : Int)).toNat ∣ N) : endL (repW ws N) (2 * (P : Int)).toNat = lineL (2 * (P : Int)).toNat := by
  unfold endL lineL
  apply List.map_congr_left
  intro i hi
  rw [rep_back hok (n := N) (fun t ht => ((Cyc.per_back (nxS_perm hok 0) N).2 hN) t ht) (List.mem_range.1 hi)]
set_option maxRecDepth 100000 in
set_option maxHeartbeats 4000000 in
theorem seamsBackOf (p : Int) (A D : Option Addr) (n c k e : Nat) (b : Int) (ws : List Wk) (ord : List Int) (w : World) (hn : n ≤ 9223372036854775807) (hw : RdW w w.heap.size A ws) (hl : ws.length = n) (hs : ∀ x ∈ ws, x.word.size ≤ 9223372036854775807)
    (hd : RdI w w.heap.size D ord) (hlk : ord.length = k) (hk : k ≤ 9223372036854775807) (hb : 0 ≤ b ∧ b ≤ 255) :
    Calls Try.prog 7 #[.agg #[.int .i64 p, .slice A n c], .slice D k e, .int .u8 b] w fun e w' => e = .returned (.bool true) ∧ Below w.heap.size w w' := by
  have CF := Lib.hid (fun (W : World) (hb : Below w.heap.size w W) => far24 p A n c ws W hn (hw.up hb) hl hs)
  have CK := Lib.hid (fun (W : World) (hb : Below w.heap.size w W) => check04 p A n c ws W hn (hw.up hb) hl hs)
  have K0 : Has (w.alloc (.cells #[.int .i64 p, .slice A n c] 24)) w.heap.size 24 [.int .i64 p, .slice A n c] := Has.new rfl
  by_cases h20 : 2000 < k
  · have d20 : decide ((2000 : Int) < (k : Int)) = true := decide_eq_true (by omega)
    clear hw hl hs CK hd
    go_enter Try.func7, Try.ntmps7
    go_wp2_with fail
    refine (CF.out _ (by go_grown)).mono ?_
    rintro e w1 ⟨⟨b, rfl⟩, hb1⟩
    have B1 : Below w.heap.size w w1 := bvia (show Below w.heap.size w _ by go_grown) hb1
    clear K0 hb1 CF
    cases b <;> (go_wp2_with fail; refine (shown10 _).mono ?_; rintro e w2 ⟨rfl, hb2⟩; go_wp2; go_ret; exact ⟨rfl, bvia B1 hb2⟩)
  have d20 : decide ((2000 : Int) < (k : Int)) = false := decide_eq_false (by omega)
  by_cases hE : schk p ws = 0
  case neg =>
    have hd' : (schk p ws != 0) = true := by simpa using hE
    generalize schk p ws = er at *
    clear hw hl hs hE hd
    go_enter Try.func7, Try.ntmps7
    go_wp2_with fail
    refine (CF.out _ (by go_grown)).mono ?_
    rintro e w1 ⟨⟨b, rfl⟩, hb1⟩
    have B1 : Below w.heap.size w w1 := bvia (show Below w.heap.size w _ by go_grown) hb1
    have HB := Lib.hid (K0.below hb1 K0.lt)
    clear K0 hb1 CF
    cases b with
    | true =>
      go_wp2_with fail
      refine (shown10 _).mono ?_
      rintro e w2 ⟨rfl, hb2⟩
      go_wp2
      go_ret
      exact ⟨rfl, bvia B1 hb2⟩
    | false =>
      have a0 : w1.cell? ⟨w.heap.size, 0, none⟩ = some (.int .i64 p) := HB.out.cell 0
      have a1 : w1.cell? ⟨w.heap.size, 1, none⟩ = some (.slice A n c) := HB.out.cell 1
      have q := HB.out.lt
      go_wp2_with fail
      refine (CK.out _ B1).mono ?_
      rintro e w2 ⟨rfl, hb2⟩
      have B2 := bvia B1 hb2
      clear a0 a1 q hb2 B1 HB
      go_wp2_with fail
      refine (shown10 _).mono ?_
      rintro e w3 ⟨rfl, hb3⟩
      go_wp2
      go_ret
      exact ⟨rfl, bvia B2 hb3⟩
  have hok := schk_zero hE
  obtain ⟨P, rfl⟩ := Int.eq_ofNat_of_zero_le (show 0 ≤ p by have := hok.ge; omega)
  have hP : 2 ≤ P ∧ P ≤ 24 := by have := hok.ge; have := hok.le; omega
  have hn4 : n ≤ 400 := by have := hok.len; omega
  obtain ⟨B, rfl⟩ := Int.eq_ofNat_of_zero_le hb.1
  obtain ⟨N, hN⟩ : ∃ N, N = Cyc.per (nxS ws (2 * (P : Int)).toNat 0) (2 * (P : Int)).toNat := ⟨_, rfl⟩
  have hNb := Cyc.per_bounds (nxS_perm hok 0) (show (2 * (P : Int)).toNat ≤ 48 by omega)
  rw [← hN] at hNb
  have hpr : perR (P : Int) ws 0 = (N : Int) := by unfold perR; rw [if_pos (per_zero hok), hN]; rfl
  have HRE : Hid (endL (repW ws N) (2 * (P : Int)).toNat = lineL (2 * (P : Int)).toNat) := rep_ends hok (by rw [hN]; exact Nat.dvd_refl _)
  have CP := Lib.hid (fun (W : World) (hb : Below w.heap.size w W) => period19 (P : Int) A n c 0 ws W hn (hw.up hb) hl hs)
  rw [hpr, per_zero hok] at CP
  have CO := Lib.hid (fun (W : World) (hb : Below w.heap.size w W) => order15 (P : Int) A D n c k e ws ord W (hw.up hb) hl hok (hd.up hb) hlk hk)
  obtain ⟨H, hH⟩ : ∃ H : Int, H = (B : Int) % (P : Int) := ⟨_, rfl⟩
  have hse : seE (P : Int) ws H = 0 := by
    have h1 : 0 ≤ H := by rw [hH]; exact Int.emod_nonneg _ (by omega)
    have h2 : H < (P : Int) := by rw [hH]; exact Int.emod_lt_of_pos _ (by omega)
    unfold seE; rw [if_neg (by rw [schk_of hok]; simp), if_neg (by omega)]
  have CL := Lib.hid (fun (W : World) (hb : Below w.heap.size w W) => loops16 (P : Int) A n c H ws W hn (hw.up hb) hl hs)
  have HLE := Lib.hid (loopsR_le (P : Int) ws H)
  have CRO : Hid (ordB ws ord = true → k = n ∧ (∀ (W : World), Below w.heap.size w W → Calls Try.prog 27 #[.agg #[.int .i64 (P : Int), .slice A n c], .slice D k e] W (RetSE (P : Int) (reW ws ord) 0 W)) ∧ (∀ (A' : Option Addr) (n' c' : Nat) (W : World), n' ≤ 9223372036854775807 → RdW W W.heap.size A' (reW ws ord) → (reW ws ord).length = n' → Calls Try.prog 16 #[.agg #[.int .i64 (P : Int), .slice A' n' c'], .int .i64 H] W (RetLE (loopsR (P : Int) ws H) 0 W))) := fun ho => by
    have hkn : k = n := by
      have h1 := ho
      unfold ordB at h1
      obtain ⟨h2, _⟩ := (Bool.and_eq_true_iff).1 h1
      have h3 : ord.length = ws.length := by simpa using h2
      omega
    subst hkn
    refine ⟨rfl, fun W hb => reorder16 (P : Int) A D k c e ws ord W (hw.up hb) hl hok (hd.up hb) ho hlk, fun A' n' c' W hn' hr hl' => ?_⟩
    have h1 := loops16 (P : Int) A' n' c' H (reW ws ord) W hn' hr hl' (fun x hx => Nat.le_trans ((reW_ok hok ho).short x hx) (by omega))
    rw [(loopsR_reo hok ho).1, (loopsR_reo hok ho).2, hse] at h1
    exact h1
  rw [hse] at CL
  have CT := Lib.hid (fun (W : World) (hb : Below w.heap.size w W) => repeat11 (P : Int) A n c (N : Int) ws W hn (hw.up hb) hl hs)
  have HOK := Lib.hid hok
  have HL := Lib.hid hl
  rw [hE] at CK
  have i1 : (B : Int).tmod (P : Int) = H := by rw [hH]; exact Int.tmod_eq_emod_of_nonneg (by omega)
  have i1' : (B : Int) % (P : Int) = H := hH.symm
  have i2 : ¬ P = 0 := by omega
  have i3 : (0 : Int) ≤ (B : Int) := by omega
  have HH := Lib.hid hH
  generalize loopsR (P : Int) ws H = ls at *
  clear hw hl hs hd hN hpr hse hH hok hE
  go_enter Try.func7, Try.ntmps7
  go_wp2_with fail
  refine (CF.out _ (by go_grown)).mono ?_
  rintro e0 w1 ⟨⟨b, rfl⟩, hb1⟩
  have B1 := Lib.hid (bvia (show Below w.heap.size w _ by go_grown) hb1)
  have HB := Lib.hid (K0.below hb1 K0.lt)
  clear K0 hb1 CF
  cases b with
  | true =>
    go_wp2_with fail
    refine (shown10 _).mono ?_
    rintro e z0 ⟨rfl, hz0⟩
    go_wp2
    go_ret
    exact ⟨rfl, bvia B1.out hz0⟩
  | false =>
    have a0 : w1.cell? ⟨w.heap.size, 0, none⟩ = some (.int .i64 (P : Int)) := HB.out.cell 0
    have a1 : w1.cell? ⟨w.heap.size, 1, none⟩ = some (.slice A n c) := HB.out.cell 1
    have q := HB.out.lt
    go_wp2_with fail
    refine (CK.out _ B1.out).mono ?_
    rintro e2 w2 ⟨rfl, hb2⟩
    have B2 := Lib.hid (bvia B1.out hb2)
    have HB2 := Lib.hid (HB.out.below hb2 HB.out.lt)
    clear a0 a1 q hb2 B1 HB CK
    have a0 : w2.cell? ⟨w.heap.size, 0, none⟩ = some (.int .i64 (P : Int)) := HB2.out.cell 0
    have a1 : w2.cell? ⟨w.heap.size, 1, none⟩ = some (.slice A n c) := HB2.out.cell 1
    have q := HB2.out.lt
    go_wp2_with fail
    refine (CP.out _ B2.out).mono ?_
    rintro e3 w3 ⟨rfl, hb3⟩
    have B3 := Lib.hid (bvia B2.out hb3)
    have HB3 := Lib.hid (HB2.out.below hb3 HB2.out.lt)
    clear a0 a1 q hb3 B2 HB2 CP
    have d1 : decide ((N : Int) < 1) = false := decide_eq_false (by omega)
    by_cases hN2 : N ≤ 200
    · have d2 : decide ((N : Int) ≤ 200) = true := decide_eq_true (by omega)
      have hNn : N * n ≤ 80000 := by have := Nat.mul_le_mul hN2 hn4; omega
      have eM : (N : Int) * (n : Int) = ((N * n : Nat) : Int) := (Int.natCast_mul N n).symm
      have i4 : IntKind.i64.wrap ((N : Int) * (n : Int)) = ((N * n : Nat) : Int) := by rw [eM]; exact IntWalk.i64_in _ (by omega)
      have a0 : w3.cell? ⟨w.heap.size, 0, none⟩ = some (.int .i64 (P : Int)) := HB3.out.cell 0
      have a1 : w3.cell? ⟨w.heap.size, 1, none⟩ = some (.slice A n c) := HB3.out.cell 1
      have q := HB3.out.lt
      by_cases h4 : N * n ≤ 400
      · have d3 : decide (((N * n : Nat) : Int) ≤ 400) = true := decide_eq_true (by omega)
        have hre : repE (P : Int) ws (N : Int) = 0 := by
          unfold repE; rw [if_neg (by rw [schk_of HOK.out]; simp), if_neg (by omega), if_neg (by rw [HL.out, eM]; omega)]
        have e1 : repP (P : Int) ws (N : Int) = (P : Int) := by unfold repP; rw [if_pos hre]
        have e2 : repL (P : Int) ws (N : Int) = repW ws N := by unfold repL; rw [if_pos hre]; simp
        rw [hre, e1, e2] at CT
        have HOR := Lib.hid (repW_ok HOK.out (k := N) (by rw [HL.out]; exact h4))
        have HLR : Hid ((repW ws N).length = N * n) := by show _ = _; rw [repW_len, HL.out]
        clear hre e1 e2 eM
        generalize N * n = Nn at *
        go_wp2_with fail
        refine (CT.out _ B3.out).mono ?_
        rintro e4 w4 ⟨A4, n4, c4, rfl, r4, l4, hn4', hc4, hb4⟩
        have B4 := Lib.hid (bvia B3.out hb4)
        have HB4 := Lib.hid (HB3.out.below hb4 HB3.out.lt)
        obtain ⟨v4, hv4⟩ : ∃ v4, v4 = w4.alloc (.cells #[.int .i64 (P : Int), .slice A4 n4 c4] 24) := ⟨_, rfl⟩
        have HX : Hid (Has v4 w4.heap.size 24 [.int .i64 (P : Int), .slice A4 n4 c4]) := by show Has _ _ _ _; rw [hv4]; exact Has.new rfl
        have HA : Hid (Below w4.heap.size w4 v4) := by show Below _ _ _; rw [hv4]; go_grown
        have R4 := Lib.hid (r4.up HA.out)
        have B5 := Lib.hid (bvia B4.out HA.out)
        have HB5 := Lib.hid (HB4.out.below HA.out HB4.out.lt)
        have L4 := Lib.hid l4
        have x0 : v4.cell? ⟨w4.heap.size, 0, none⟩ = some (.int .i64 (P : Int)) := HX.out.cell 0
        have x1 : v4.cell? ⟨w4.heap.size, 1, none⟩ = some (.slice A4 n4 c4) := HX.out.cell 1
        have xq := HX.out.lt
        have CK4 := Lib.hid (fun (W : World) (hb : Below v4.heap.size v4 W) => check04 (P : Int) A4 n4 c4 (repW ws N) W (Nat.le_trans hn4' hc4) (R4.out.up hb) L4.out (fun x hx => Nat.le_trans (HOR.out.short x hx) (by omega)))
        rw [schk_of HOR.out] at CK4
        have q4 := HB4.out.lt
        clear a0 a1 q hb4 r4 l4 HB4 B4 HA
        go_upto_region 8 with (fail)
        rw [← hv4]
        clear hv4
        go_wp2_with fail
        refine (CK4.out _ (Below.refl _ _)).mono ?_
        rintro e5 w5 ⟨rfl, hb5⟩
        have B6 := Lib.hid (bvia B5.out hb5)
        have HB6 := Lib.hid (HB5.out.below hb5 HB5.out.lt)
        have HX5 := Lib.hid (HX.out.below hb5 HX.out.lt)
        have R5 := Lib.hid (R4.out.up hb5)
        have x0 : w5.cell? ⟨w4.heap.size, 0, none⟩ = some (.int .i64 (P : Int)) := HX5.out.cell 0
        have x1 : w5.cell? ⟨w4.heap.size, 1, none⟩ = some (.slice A4 n4 c4) := HX5.out.cell 1
        have xq := HX5.out.lt
        have CM := Lib.hid (make12 (P : Int) A4 n4 c4 (repW ws N) w5 (Nat.le_trans hn4' hc4) R5.out L4.out (schk_of HOR.out))
        have HV := Lib.hid (Mk.valid HOR.out n4 (by rw [L4.out]; exact Nat.le_refl _))
        have HEN : Hid (endsR (2 * (P : Int)) (Mk.works (repW ws N) n4).xs (Mk.works (repW ws N) n4).ps = lineL (2 * (P : Int)).toNat) := by
          show _ = _
          rw [Mk.endsR HOR.out n4 (by rw [L4.out]; exact Nat.le_refl _), ← L4.out, works_endL HOR.out, HRE.out]
        clear hb5 HB5 B5 CK4 R4 HX
        go_wp2_with fail
        refine CM.out.mono ?_
        rintro e6 w6 ⟨A6, n6, c6, D6, m6, d6, rfl, x6, p6, ln6, lm6, hc6, hc6', hd6, hd6', hb6⟩
        have B7 := Lib.hid (bvia B6.out hb6)
        have HB7 := Lib.hid (HB6.out.below hb6 HB6.out.lt)
        have HX6 := Lib.hid x6
        have HP6 := Lib.hid p6
        have CE := Lib.hid (fun (W : World) (hb : Below w6.heap.size w6 W) => ends31 (2 * (P : Int)) A6 D6 n6 c6 m6 d6 _ _ W (Nat.le_trans hc6 hc6') (Nat.le_trans hd6 hd6') (HX6.out.up hb) (HP6.out.up hb) ln6 lm6 (by omega))
        rw [HEN.out, HV.out] at CE
        clear x0 x1 xq x6 p6 ln6 lm6 hb6 CM HB6 B6 HX5 R5
        go_wp2_with fail
        refine (CE.out _ (by go_grown)).mono ?_
        rintro e7 w7 ⟨A7, n7, c7, rfl, r7, l7, hb7⟩
        have B67 : Below w6.heap.size w6 w7 := bvia (show Below w6.heap.size w6 _ by go_grown) hb7
        have B8 := Lib.hid (bvia B7.out B67)
        have HB8 := Lib.hid (HB7.out.below B67 HB7.out.lt)
        have R7 := Lib.hid r7
        have hT : n7 = (2 * (P : Int)).toNat := by rw [← l7, lineL_len]
        have HT := Lib.hid hT
        have hT48 : n7 ≤ 48 := by omega
        clear hb7 B67 r7 CE HB7 B7 HX6 HP6 l7
        clear hT
        go_wp2
        go_loopw [15] (fun v wr => ∃ j : Nat, j ≤ n7 ∧ v = .int .i64 (j : Int) ∧ wr = w7) (fun v _ => n7 - (intOf v).toNat)
        case atStart => exact ⟨0, Nat.zero_le _, rfl, rfl⟩
        case round =>
          obtain ⟨j, hj, rfl, hw⟩ := hrel
          subst hw
          by_cases hlt : j < n7
          · have jk : (j : Int) < (n7 : Int) := by omega
            obtain ⟨ba, o, e8, hba, c0⟩ := R7.out j _ (lineL_get (by rw [← HT.out]; exact hlt))
            subst e8
            have dd : ((j : Int) != (j : Int)) = false := by simp
            go_wp2
            go_roundw
            case rel => exact ⟨j + 1, by omega, by go_num, trivial⟩
            case measure => first | (simp [intOf]; done) | (simp [intOf]; omega)
          · obtain rfl : j = n7 := by omega
            obtain ⟨wz, rfl⟩ : ∃ wz : World, wz = wr := ⟨_, rfl⟩
            have a0 : wz.cell? ⟨w.heap.size, 0, none⟩ = some (.int .i64 (P : Int)) := HB8.out.cell 0
            have a1 : wz.cell? ⟨w.heap.size, 1, none⟩ = some (.slice A n c) := HB8.out.cell 1
            have q := HB8.out.lt
            go_wp2_with fail
            refine (CO.out _ B8.out).mono ?_
            rintro e t1 ⟨rfl, hbo⟩
            have BO := Lib.hid (bvia B8.out hbo)
            have KO := Lib.hid (HB8.out.below hbo HB8.out.lt)
            clear a0 a1 q hbo
            cases hord : ordB ws ord with
            | false =>
              go_wp2_with fail
              refine (shown10 _).mono ?_
              rintro e za ⟨rfl, hza⟩
              go_wp2
              go_ret
              exact ⟨rfl, bvia BO.out hza⟩
            | true =>
              have a0 : t1.cell? ⟨w.heap.size, 0, none⟩ = some (.int .i64 (P : Int)) := KO.out.cell 0
              have a1 : t1.cell? ⟨w.heap.size, 1, none⟩ = some (.slice A n c) := KO.out.cell 1
              have q := KO.out.lt
              obtain ⟨hkn, CR, HLR⟩ := CRO.out hord
              have HKN := Lib.hid hkn
              have HLR := Lib.hid HLR
              have CR := Lib.hid CR
              clear hord hkn
              go_wp2_with fail
              refine (CR.out _ BO.out).mono ?_
              rintro e t2 ⟨A2, n2, c2, rfl, r2, l2, hn2, hc2, hb2⟩
              have B2 := Lib.hid (bvia BO.out hb2)
              have K2 := Lib.hid (KO.out.below hb2 KO.out.lt)
              obtain ⟨v2, hv2⟩ : ∃ v2, v2 = t2.alloc (.cells #[.int .i64 (P : Int), .slice A2 n2 c2] 24) := ⟨_, rfl⟩
              have HX : Hid (Has v2 t2.heap.size 24 [.int .i64 (P : Int), .slice A2 n2 c2]) := by show Has _ _ _ _; rw [hv2]; exact Has.new rfl
              have HA : Hid (Below t2.heap.size t2 v2) := by show Below _ _ _; rw [hv2]; go_grown
              have R2 := Lib.hid (r2.up HA.out)
              have B3 := Lib.hid (bvia B2.out HA.out)
              have K3 := Lib.hid (K2.out.below HA.out K2.out.lt)
              have b0 : v2.cell? ⟨w.heap.size, 0, none⟩ = some (.int .i64 (P : Int)) := K3.out.cell 0
              have b1 : v2.cell? ⟨w.heap.size, 1, none⟩ = some (.slice A n c) := K3.out.cell 1
              have q3 := K3.out.lt
              have q2 := K2.out.lt
              clear a0 a1 q hb2 BO KO r2 K2 B2 HA
              go_upto_region 20 with (fail)
              rw [← hv2]
              clear hv2
              go_wp2_with fail
              refine (CL.out _ B3.out).mono ?_
              rintro e t3 ⟨A3, n3, c3, rfl, r3, l3, hn3, hc3, hb3⟩
              have B4 := Lib.hid (bvia B3.out hb3)
              have X4 := Lib.hid (HX.out.below hb3 HX.out.lt)
              have R24 := Lib.hid (R2.out.up hb3)
              have R3 := Lib.hid r3
              have x0 : t3.cell? ⟨t2.heap.size, 0, none⟩ = some (.int .i64 (P : Int)) := X4.out.cell 0
              have x1 : t3.cell? ⟨t2.heap.size, 1, none⟩ = some (.slice A2 n2 c2) := X4.out.cell 1
              have xq := X4.out.lt
              clear b0 b1 q3 hb3 B3 K3 HX R2 r3
              go_wp2_with fail
              refine (HLR.out A2 n2 c2 t3 (Nat.le_trans hn2 hc2) R24.out l2).mono ?_
              rintro e t4 ⟨A4, n4, c4, rfl, r4, l4, hn4, hc4, hb4⟩
              have B5 := Lib.hid (bvia B4.out hb4)
              have CS := Lib.hid (fun (W : World) (hb : Below t4.heap.size t4 W) => same18 A3 A4 n3 n4 c3 c4 ls ls W (Nat.le_trans hn3 hc3) (Nat.le_trans hn4 hc4) ((R3.out.up hb4).up hb) (r4.up hb) l3 l4 HLE.out HLE.out)
              rw [show (ls == ls) = true by simp] at CS
              clear x0 x1 xq hb4 B4 X4 R24 R3 r4
              go_wp2_with fail
              refine (CS.out _ (Below.refl _ _)).mono ?_
              rintro e t5 ⟨rfl, hb5⟩
              have B6 := Lib.hid (bvia B5.out hb5)
              clear CS hb5
              go_wp2_with fail
              refine (shown10 _).mono ?_
              rintro e zb ⟨rfl, hzb⟩
              go_wp2
              go_ret
              exact ⟨rfl, bvia B6.out hzb⟩
      · have d3 : decide (((N * n : Nat) : Int) ≤ 400) = false := decide_eq_false (by omega)
        clear eM
        generalize N * n = Nn at *
        clear a0 a1 q
        have a0 : w3.cell? ⟨w.heap.size, 0, none⟩ = some (.int .i64 (P : Int)) := HB3.out.cell 0
        have a1 : w3.cell? ⟨w.heap.size, 1, none⟩ = some (.slice A n c) := HB3.out.cell 1
        have q := HB3.out.lt
        go_wp2_with fail
        refine (CO.out _ B3.out).mono ?_
        rintro e t1 ⟨rfl, hbo⟩
        have BO := Lib.hid (bvia B3.out hbo)
        have KO := Lib.hid (HB3.out.below hbo HB3.out.lt)
        clear a0 a1 q hbo
        cases hord : ordB ws ord with
        | false =>
          go_wp2_with fail
          refine (shown10 _).mono ?_
          rintro e za ⟨rfl, hza⟩
          go_wp2
          go_ret
          exact ⟨rfl, bvia BO.out hza⟩
        | true =>
          have a0 : t1.cell? ⟨w.heap.size, 0, none⟩ = some (.int .i64 (P : Int)) := KO.out.cell 0
          have a1 : t1.cell? ⟨w.heap.size, 1, none⟩ = some (.slice A n c) := KO.out.cell 1
          have q := KO.out.lt
          obtain ⟨hkn, CR, HLR⟩ := CRO.out hord
          have HKN := Lib.hid hkn
          have HLR := Lib.hid HLR
          have CR := Lib.hid CR
          clear hord hkn
          go_wp2_with fail
          refine (CR.out _ BO.out).mono ?_
          rintro e t2 ⟨A2, n2, c2, rfl, r2, l2, hn2, hc2, hb2⟩
          have B2 := Lib.hid (bvia BO.out hb2)
          have K2 := Lib.hid (KO.out.below hb2 KO.out.lt)
          obtain ⟨v2, hv2⟩ : ∃ v2, v2 = t2.alloc (.cells #[.int .i64 (P : Int), .slice A2 n2 c2] 24) := ⟨_, rfl⟩
          have HX : Hid (Has v2 t2.heap.size 24 [.int .i64 (P : Int), .slice A2 n2 c2]) := by show Has _ _ _ _; rw [hv2]; exact Has.new rfl
          have HA : Hid (Below t2.heap.size t2 v2) := by show Below _ _ _; rw [hv2]; go_grown
          have R2 := Lib.hid (r2.up HA.out)
          have B3 := Lib.hid (bvia B2.out HA.out)
          have K3 := Lib.hid (K2.out.below HA.out K2.out.lt)
          have b0 : v2.cell? ⟨w.heap.size, 0, none⟩ = some (.int .i64 (P : Int)) := K3.out.cell 0
          have b1 : v2.cell? ⟨w.heap.size, 1, none⟩ = some (.slice A n c) := K3.out.cell 1
          have q3 := K3.out.lt
          have q2 := K2.out.lt
          clear a0 a1 q hb2 BO KO r2 K2 B2 HA
          go_upto_region 20 with (fail)
          rw [← hv2]
          clear hv2
          go_wp2_with fail
          refine (CL.out _ B3.out).mono ?_
          rintro e t3 ⟨A3, n3, c3, rfl, r3, l3, hn3, hc3, hb3⟩
          have B4 := Lib.hid (bvia B3.out hb3)
          have X4 := Lib.hid (HX.out.below hb3 HX.out.lt)
          have R24 := Lib.hid (R2.out.up hb3)
          have R3 := Lib.hid r3
          have x0 : t3.cell? ⟨t2.heap.size, 0, none⟩ = some (.int .i64 (P : Int)) := X4.out.cell 0
          have x1 : t3.cell? ⟨t2.heap.size, 1, none⟩ = some (.slice A2 n2 c2) := X4.out.cell 1
          have xq := X4.out.lt
          clear b0 b1 q3 hb3 B3 K3 HX R2 r3
          go_wp2_with fail
          refine (HLR.out A2 n2 c2 t3 (Nat.le_trans hn2 hc2) R24.out l2).mono ?_
          rintro e t4 ⟨A4, n4, c4, rfl, r4, l4, hn4, hc4, hb4⟩
          have B5 := Lib.hid (bvia B4.out hb4)
          have CS := Lib.hid (fun (W : World) (hb : Below t4.heap.size t4 W) => same18 A3 A4 n3 n4 c3 c4 ls ls W (Nat.le_trans hn3 hc3) (Nat.le_trans hn4 hc4) ((R3.out.up hb4).up hb) (r4.up hb) l3 l4 HLE.out HLE.out)
          rw [show (ls == ls) = true by simp] at CS
          clear x0 x1 xq hb4 B4 X4 R24 R3 r4
          go_wp2_with fail
          refine (CS.out _ (Below.refl _ _)).mono ?_
          rintro e t5 ⟨rfl, hb5⟩
          have B6 := Lib.hid (bvia B5.out hb5)
          clear CS hb5
          go_wp2_with fail
          refine (shown10 _).mono ?_
          rintro e zb ⟨rfl, hzb⟩
          go_wp2
          go_ret
          exact ⟨rfl, bvia B6.out hzb⟩
    · have d2 : decide ((N : Int) ≤ 200) = false := decide_eq_false (by omega)
      have a0 : w3.cell? ⟨w.heap.size, 0, none⟩ = some (.int .i64 (P : Int)) := HB3.out.cell 0
      have a1 : w3.cell? ⟨w.heap.size, 1, none⟩ = some (.slice A n c) := HB3.out.cell 1
      have q := HB3.out.lt
      go_wp2_with fail
      refine (CO.out _ B3.out).mono ?_
      rintro e t1 ⟨rfl, hbo⟩
      have BO := Lib.hid (bvia B3.out hbo)
      have KO := Lib.hid (HB3.out.below hbo HB3.out.lt)
      clear a0 a1 q hbo
      cases hord : ordB ws ord with
      | false =>
        go_wp2_with fail
        refine (shown10 _).mono ?_
        rintro e za ⟨rfl, hza⟩
        go_wp2
        go_ret
        exact ⟨rfl, bvia BO.out hza⟩
      | true =>
        have a0 : t1.cell? ⟨w.heap.size, 0, none⟩ = some (.int .i64 (P : Int)) := KO.out.cell 0
        have a1 : t1.cell? ⟨w.heap.size, 1, none⟩ = some (.slice A n c) := KO.out.cell 1
        have q := KO.out.lt
        obtain ⟨hkn, CR, HLR⟩ := CRO.out hord
        have HKN := Lib.hid hkn
        have HLR := Lib.hid HLR
        have CR := Lib.hid CR
        clear hord hkn
        go_wp2_with fail
        refine (CR.out _ BO.out).mono ?_
        rintro e t2 ⟨A2, n2, c2, rfl, r2, l2, hn2, hc2, hb2⟩
        have B2 := Lib.hid (bvia BO.out hb2)
        have K2 := Lib.hid (KO.out.below hb2 KO.out.lt)
        obtain ⟨v2, hv2⟩ : ∃ v2, v2 = t2.alloc (.cells #[.int .i64 (P : Int), .slice A2 n2 c2] 24) := ⟨_, rfl⟩
        have HX : Hid (Has v2 t2.heap.size 24 [.int .i64 (P : Int), .slice A2 n2 c2]) := by show Has _ _ _ _; rw [hv2]; exact Has.new rfl
        have HA : Hid (Below t2.heap.size t2 v2) := by show Below _ _ _; rw [hv2]; go_grown
        have R2 := Lib.hid (r2.up HA.out)
        have B3 := Lib.hid (bvia B2.out HA.out)
        have K3 := Lib.hid (K2.out.below HA.out K2.out.lt)
        have b0 : v2.cell? ⟨w.heap.size, 0, none⟩ = some (.int .i64 (P : Int)) := K3.out.cell 0
        have b1 : v2.cell? ⟨w.heap.size, 1, none⟩ = some (.slice A n c) := K3.out.cell 1
        have q3 := K3.out.lt
        have q2 := K2.out.lt
        clear a0 a1 q hb2 BO KO r2 K2 B2 HA
        go_upto_region 20 with (fail)
        rw [← hv2]
        clear hv2
        go_wp2_with fail
        refine (CL.out _ B3.out).mono ?_
        rintro e t3 ⟨A3, n3, c3, rfl, r3, l3, hn3, hc3, hb3⟩
        have B4 := Lib.hid (bvia B3.out hb3)
        have X4 := Lib.hid (HX.out.below hb3 HX.out.lt)
        have R24 := Lib.hid (R2.out.up hb3)
        have R3 := Lib.hid r3
        have x0 : t3.cell? ⟨t2.heap.size, 0, none⟩ = some (.int .i64 (P : Int)) := X4.out.cell 0
        have x1 : t3.cell? ⟨t2.heap.size, 1, none⟩ = some (.slice A2 n2 c2) := X4.out.cell 1
        have xq := X4.out.lt
        clear b0 b1 q3 hb3 B3 K3 HX R2 r3
        go_wp2_with fail
        refine (HLR.out A2 n2 c2 t3 (Nat.le_trans hn2 hc2) R24.out l2).mono ?_
        rintro e t4 ⟨A4, n4, c4, rfl, r4, l4, hn4, hc4, hb4⟩
        have B5 := Lib.hid (bvia B4.out hb4)
        have CS := Lib.hid (fun (W : World) (hb : Below t4.heap.size t4 W) => same18 A3 A4 n3 n4 c3 c4 ls ls W (Nat.le_trans hn3 hc3) (Nat.le_trans hn4 hc4) ((R3.out.up hb4).up hb) (r4.up hb) l3 l4 HLE.out HLE.out)
        rw [show (ls == ls) = true by simp] at CS
        clear x0 x1 xq hb4 B4 X4 R24 R3 r4
        go_wp2_with fail
        refine (CS.out _ (Below.refl _ _)).mono ?_
        rintro e t5 ⟨rfl, hb5⟩
        have B6 := Lib.hid (bvia B5.out hb5)
        clear CS hb5
        go_wp2_with fail
        refine (shown10 _).mono ?_
        rintro e zb ⟨rfl, hzb⟩
        go_wp2
        go_ret
        exact ⟨rfl, bvia B6.out hzb⟩
end Go.Proofs.Ytdimfbmbomgiaaa
/-
  An argument of the statements read as words: a list of ints, beside a sheet.
-/
namespace Go.Proofs.Ytdimfbmbomgiaaa
open Go.RowKit Go.ChangeShapes Go.WideShapes Go.ChangeAt Go.Joins Go.Deep
section
variable {H : Type} {enc : TypeId × Value → H} {w : World} {held : Bool}
set_option maxRecDepth 100000 in
/-- an argument that is a list of ints -/
theorem openInts {r : Reach} {b0 : Nat} {v : Value} {d : DataW H} {ps : List MemPlace} (hv : Value.okWide Try.prog w r b0 52 v) (h : DataW.Trod enc Try.prog w 0 (fun _ => true) held 52 v d ps) :
    ∃ (A : Option Addr) (n c : Nat) (xs : List Int), v = .slice A n c ∧ n ≤ c ∧ c ≤ 9223372036854775807 ∧ RdI w w.heap.size A xs ∧ xs.length = n := by
  obtain ⟨A, n, c, rfl⟩ := okWide_slice Try.underlying52 hv
  obtain ⟨fuel, hf⟩ := h
  simp only [Value.cells] at hf
  rcases open_slice1 Try.underlying52 cellsI hf with ⟨hv', _⟩ | ⟨a, len, cap, m, q, V, D, Pl, hv', _, hl, hc', hm, hx, hcs⟩
  · simp at hv'
    obtain ⟨rfl, rfl, rfl⟩ := hv'
    exact ⟨none, 0, 0, [], rfl, Nat.le_refl _, by omega, Rd1.nil _ _ _ _, rfl⟩
  · simp only [if_true] at hm
    subst hm
    simp at hv'
    obtain ⟨rfl, rfl, rfl⟩ := hv'
    have each : ∀ i, i < n → ∃ y : Int, w.cell? (a.add i) = some (.int .i64 y) := by
      intro i hi
      obtain ⟨h1, h2⟩ := hcs i (by omega)
      obtain ⟨y, e0, _, _⟩ := DataW.trod_int Try.underlying3 h2
      simp at e0
      exact ⟨y, by rw [h1, e0]⟩
    obtain ⟨X, hX⟩ := choose_lt each
    refine ⟨some a, n, c, (List.range n).map X, rfl, hl, Nat.le_trans hc' maxLen_le, ?_, by simp⟩
    intro k x hx
    have hk : k < n := by have := lt_of_get hx; simpa using this
    have : X k = x := by simpa [hk] using hx
    subst this
    have c0 := hX k hk
    obtain ⟨b, o, spot⟩ := a
    have z0 := hX 0 (by omega)
    have hs : spot = none := by simpa [Addr.add] using World.cell?_spot z0
    subst hs
    simp only [Addr.add_lit] at c0
    refine ⟨b, o, rfl, ?_, c0⟩
    refine Nat.lt_of_not_le fun hge => ?_
    have : w.cell? ⟨b, o + k, none⟩ = none := by
      simp [World.cell?, Array.getElem?_eq_none hge]
    rw [this] at c0; cases c0
end
end Go.Proofs.Ytdimfbmbomgiaaa
/-
  Two arrays compared by ==, as the model runs it. No program here.
-/
namespace Go.Proofs.Ytdimfbmbomgiaaa
open Go
def eqElems (d : Nat) (elem : TypeId) (n : Nat) (xs ys : Array Value) : List Nat → Sem Bool
  | [] => pure true
  | i :: is => do
    let a ← part elem xs (i * n)
    let b ← part elem ys (i * n)
    let r ← Op.equalIn d elem a b
    if (!r) = true then pure false else eqElems d elem n xs ys is
theorem run_equalIn_array {P : Program} (w : World) (d len n : Nat) (t elem : TypeId) (xs ys : Array Value) (ht : P.underlying t = some (.array len elem)) (hs : (sizeOf elem).run P w = .ok n w) :
    (Op.equalIn (d + 1) t (.agg xs) (.agg ys)).run P w = (eqElems d elem n xs ys (List.range' 0 len)).run P w := by
  simp only [Op.equalIn, Sem.run_bind, run_underlying ht, Result.andThen_ok, hs]
  rw [Std.Legacy.Range.forIn_eq_forIn_range']
  simp only [Std.Legacy.Range.size, Nat.sub_zero, Nat.add_sub_cancel, Nat.div_one]
  generalize List.range' 0 len = is
  clear ht hs
  induction is generalizing w with
  | nil => simp [eqElems]
  | cons i is ih =>
    simp only [List.forIn_cons, eqElems, Sem.run_bind]
    generalize (part elem xs (i * n)).run P w = r1
    cases r1 with
    | ok a w1 =>
      simp only [Result.andThen_ok]
      generalize (part elem ys (i * n)).run P w1 = r2
      cases r2 with
      | ok b w2 =>
        simp only [Result.andThen_ok]
        generalize (Op.equalIn d elem a b).run P w2 = r3
        cases r3 with
        | ok r w3 =>
          cases r
          · simp only [Result.andThen_ok, Bool.not_false, if_true, Sem.run_pure]
          · simp only [Result.andThen_ok, Bool.not_true, Bool.false_eq_true, if_false, Sem.run_pure]
            exact ih w3
        | halt x w3 => simp [Result.andThen]
      | halt x w2 => simp [Result.andThen]
    | halt x w1 => simp [Result.andThen]
theorem run_eqElems {P : Program} (w : World) (d n : Nat) (elem : TypeId) (xs : Array Value) (h : ∀ (i : Nat), i < xs.size → (part elem xs (i * n)).run P w = .ok xs[i]! w ∧ (Op.equalIn d elem xs[i]! xs[i]!).run P w = .ok true w) : ∀ (is : List Nat), (∀ i ∈ is, i < xs.size) → (eqElems d elem n xs xs is).run P w = .ok true w
  | [], _ => rfl
  | i :: is, hi => by
    obtain ⟨h1, h2⟩ := h i (hi i (by simp))
    simp only [eqElems, Sem.run_bind, h1, h2, Result.andThen_ok, Bool.not_true, Bool.false_eq_true, if_false]
    exact run_eqElems w d n elem xs h is (fun j hj => hi j (by simp [hj]))
end Go.Proofs.Ytdimfbmbomgiaaa
