/-
  Walk of the law ColoursBack.
-/
import Derived.Test.YtnijfkidgndbdaaBkp
namespace Go.Proofs.Ytnijfkidgndbdaa
open Go.RowKit
theorem infoBl : (Try.prog.info? 4).map (fun i => (i.zero, i.size, i.bytes)) = some (some (.bool false), 1, 1) := by kernel_rfl
theorem mkB (n : Nat) (_ : n ≤ 1000) (W : World) : (Instr.makeSlice 49 (.int .i64 (n : Int)) (.int .i64 (n : Int))).run Try.prog W = .ok (.slice (some ⟨W.heap.size, 0, none⟩) n n) (W.alloc (.cells (madeCells #[.bool false] n) 4)) := by
  obtain ⟨i, hi, hz, hs, hb⟩ := info_parts infoBl
  have h := run_make (P := Try.prog) W 49 4 i (.bool false) Try.underlying49 hi hz .i64 .i64 (n : Int) (n : Int) (by omega) (Int.le_refl _) (by rw [hb]; omega) (by omega)
  rw [hs] at h
  simpa [Value.cells] using h
/-- which threads stand among the first j hidden ones -/
def awayL (H : List Int) (k j : Nat) : List Value := (List.range k).map fun (T : Nat) => .bool (decide ((T : Int) ∈ H.take j))
theorem awayL_get {H : List Int} {k j T : Nat} (h : T < k) : (awayL H k j)[T]? = some (.bool (decide ((T : Int) ∈ H.take j))) := by simp [awayL, h]
theorem awayL_zero (H : List Int) (k : Nat) : awayL H k 0 = List.replicate k (.bool false) := by
  apply List.ext_getElem?
  intro i
  rw [List.getElem?_replicate]
  by_cases h : i < k
  · rw [awayL_get h]; simp [h]
  · have : (awayL H k 0)[i]? = none := by rw [List.getElem?_eq_none]; simp [awayL]; omega
    rw [this]; simp [h]
theorem awayL_set {H : List Int} {k j T : Nat} (h : H[j]? = some (T : Int)) : (awayL H k j).set T (.bool true) = awayL H k (j + 1) := by
  apply List.ext_getElem?
  intro i
  have hl : ∀ j, (awayL H k j).length = k := fun j => by simp [awayL]
  rw [List.getElem?_set, hl]
  by_cases hi : i < k
  · rw [awayL_get hi, awayL_get hi, List.take_add_one, h]
    by_cases he : T = i
    · subst he; simp [hi]
    · have : ¬ (i : Int) = (T : Int) := by omega
      simp [he, this]
  · have e1 : ∀ j, (awayL H k j)[i]? = none := fun j => by rw [List.getElem?_eq_none]; rw [hl]; omega
    rw [e1, e1]
    by_cases he : T = i
    · subst he; simp [hi]
    · simp [he]
theorem hid_away {xs : List Q4} {k T : Nat} (h : T < k) : decide ((T : Int) ∈ hidTo xs k) = decide (showsTo xs (T : Int) xs.length = []) := by
  rw [Bool.eq_iff_iff]
  simp only [decide_eq_true_eq]
  rw [hid_mem]
  constructor
  · rintro ⟨T', h1, _, h3⟩
    obtain rfl : T = T' := by omega
    exact h3
  · intro h3; exact ⟨T, rfl, h, h3⟩
set_option maxRecDepth 100000 in
set_option maxHeartbeats 8000000 in
theorem backOf (t : Int) (A B D : Option Addr) (n c m d k e : Nat) (b0 b1 : Int) (xs ps : List Q4) (ds : List Int) (w : World) (hn : n ≤ 9223372036854775807) (hm : m ≤ 9223372036854775807) (hk : k ≤ 9223372036854775807) (hx : RdQ w w.heap.size A xs) (hp : RdQ w w.heap.size B ps) (hd : RdI w w.heap.size D ds)
    (hl : xs.length = n) (hl' : ps.length = m) (hlk : ds.length = k) (ht0 : -9223372036854775808 ≤ t) (_ : n ≤ c) (hb0 : 0 ≤ b0 ∧ b0 ≤ 255) (hb1 : 0 ≤ b1 ∧ b1 ≤ 255) :
    Calls Try.prog 8 #[vCloth t A n c B m d, .slice D k e, .agg #[.int .u8 b0, .int .u8 b1]] w fun e w' => e = .returned (.bool true) ∧ Below w.heap.size w w' := by
  have HX := Lib.hid hx; have HP := Lib.hid hp; have HD := Lib.hid hd
  have C1 := Lib.hid (fun (W : World) (hb : Below w.heap.size w W) => seen14 t A B D n c m d k e xs ps ds W hn hm hk (HX.out.up hb) (HP.out.up hb) (HD.out.up hb) hl hl' hlk ht0)
  have C2 := Lib.hid (fun (S : List Int) (D' : Option Addr) (e' : Nat) (hS : S.length = n) (W : World) (hb : Below w.heap.size w W) (hD' : RdI W W.heap.size D' S) => least23 t A B D' n c m d n e' xs ps S W hn hm hn (HX.out.up hb) (HP.out.up hb) hD' hl hl' hS ht0)
  have C3 := Lib.hid (fun (W : World) (hb : Below w.heap.size w W) => hidden31 t A B n c m d xs ps W hn hm (HX.out.up hb) (HP.out.up hb) hl hl' ht0)
  have C4 := Lib.hid (fun (L : List Int) (E : Option Addr) (k2 e2 : Nat) (hk2 : k2 ≤ 9223372036854775807) (hL : L.length = k2) (W : World) (hb : Below w.heap.size w W) (hE : RdI W W.heap.size E L) => same29 t A B D E n c m d k e k2 e2 xs ps ds L W hn hm hk hk2 (HX.out.up hb) (HP.out.up hb) (HD.out.up hb) hE hl hl' hlk hL ht0)
  clear hx hp hd
  have K0 : Has ((w.alloc (.cells #[.int .i64 t, .slice A n c, .slice B m d] 25)).alloc (.cells #[.int .u8 b0, .int .u8 b1] 47)) w.heap.size 25 [.int .i64 t, .slice A n c, .slice B m d] := (Has.new rfl).alloc _
  have KO : Has ((w.alloc (.cells #[.int .i64 t, .slice A n c, .slice B m d] 25)).alloc (.cells #[.int .u8 b0, .int .u8 b1] 47)) (w.heap.size + 1) 47 [.int .u8 b0, .int .u8 b1] := Has.new2 rfl
  have B0 : Below w.heap.size w ((w.alloc (.cells #[.int .i64 t, .slice A n c, .slice B m d] 25)).alloc (.cells #[.int .u8 b0, .int .u8 b1] 47)) := by go_grown
  by_cases hfar : farB t n m = true
  · have CF := Lib.hid (far12 t A B n c m d ((w.alloc (.cells #[.int .i64 t, .slice A n c, .slice B m d] 25)).alloc (.cells #[.int .u8 b0, .int .u8 b1] 47)))
    rw [hfar] at CF
    go_enter Try.func8, Try.ntmps8
    go_wp2_with fail
    refine CF.out.mono ?_
    rintro e w1 ⟨rfl, hb1⟩
    have B1 := bvia B0 hb1
    go_wp2_with fail
    refine (shown13 _).mono ?_
    rintro e w2 ⟨rfl, hb2⟩
    go_wp2
    go_ret
    exact ⟨rfl, bvia B1 hb2⟩
  have CF := Lib.hid (far12 t A B n c m d ((w.alloc (.cells #[.int .i64 t, .slice A n c, .slice B m d] 25)).alloc (.cells #[.int .u8 b0, .int .u8 b1] 47)))
  rw [show farB t n m = false by simpa using hfar] at CF
  by_cases hlim : (100 : Int) < (k : Int)
  · have dl : decide ((100 : Int) < (k : Int)) = true := decide_eq_true hlim
    clear hlim
    go_enter Try.func8, Try.ntmps8
    go_wp2_with fail
    refine CF.out.mono ?_
    rintro e w1 ⟨rfl, hb1⟩
    have B1 := bvia B0 hb1
    go_wp2_with fail
    refine (shown13 _).mono ?_
    rintro e w2 ⟨rfl, hb2⟩
    go_wp2
    go_ret
    exact ⟨rfl, bvia B1 hb2⟩
  have dl : decide ((100 : Int) < (k : Int)) = false := decide_eq_false hlim
  clear hlim hfar
  by_cases hE : chkE t xs ps ds = 0
  · obtain ⟨g1, g2, g3⟩ := chkE_ok hE
    have ht2 := (ckE_ok g1).1
    have ht48 := (ckE_ok g1).2.1
    have hn2 : n ≤ 20000 := by have := (ckE_ok g1).2.2.1; rw [hl] at this; exact this
    obtain ⟨k', rfl⟩ := Int.eq_ofNat_of_zero_le (show 0 ≤ t by omega)
    obtain rfl : k' = k := by rw [hlk] at g2; omega
    have hS1 : seenR (k' : Int) xs ps ds = overL xs ds := by unfold seenR; rw [if_pos hE]
    obtain ⟨hL1, hL2⟩ := least_of hE
    have hLn : (leastL (k' : Int) xs (overL xs ds)).length = k' := leastL_len _ _ _
    have hH1 : hidR (k' : Int) xs ps = hidTo xs k' := by unfold hidR; rw [if_pos g1]; simp
    obtain ⟨hs1, hs2⟩ := same_of hE (chk_least hE)
    rw [over_least hE] at hs2
    have hs3 : diffI (overL xs ds) (overL xs ds) xs.length = -1 := diffI_none (fun _ _ => rfl)
    rw [hs3] at hs2
    rw [hS1, hE] at C1
    have LS : Hid ((overL xs ds).length = n) := by show _ = n; simp [overL, hl]
    have D2 := Lib.hid (fun (D' : Option Addr) (e' : Nat) => C2.out (overL xs ds) D' e' LS.out)
    rw [hL1, hL2] at D2
    rw [hH1, g1] at C3
    have D4 := Lib.hid (fun (E : Option Addr) (e2 : Nat) => C4.out (leastL (k' : Int) xs (overL xs ds)) E k' e2 hk hLn)
    rw [hs1, hs2] at D4
    have D5 : Hid (∀ (tt : Nat) (v old : Int) (E : Option Addr) (e2 : Nat) (W : World), tt < k' → 0 ≤ v → v < 16 → ds[tt]? = some old → Below w.heap.size w W → RdI W W.heap.size E (ds.set tt v) →
        ∃ M : Int, Calls Try.prog 29 #[vCloth (k' : Int) A n c B m d, .slice D k' e, .slice E k' e2] W (fun e w' => e = .returned (.tuple #[.int .i64 M, .int .i64 0]) ∧ Below W.heap.size W w') ∧ (M == -1) = (decide (showsTo xs (tt : Int) xs.length = []) || decide (v = old))) := by
      intro tt v old E e2 W h1 h2 h3 h4 h5 h6
      have h := C4.out (ds.set tt v) E k' e2 hk (by rw [List.length_set, hlk]) W h5 h6
      obtain ⟨q1, q2⟩ := same_of hE (chk_set (tt := tt) hE h2 h3)
      rw [q1, q2] at h
      refine ⟨_, h, ?_⟩
      rw [← diff_set hE h1 h4]
      rw [Bool.eq_iff_iff]; simp
    have HLG : Hid (∀ T : Nat, T < k' → (leastL (k' : Int) xs (overL xs ds))[T]? = some (if showsTo xs (T : Int) xs.length = [] then 0 else ds.getD T 0)) := fun T hT => leastL_get hT
    have HHM : Hid (∀ v ∈ hidTo xs k', ∃ T : Nat, v = (T : Int) ∧ T < k') := fun v hv => by
      obtain ⟨T, h1, h2, _⟩ := hid_mem.1 hv; exact ⟨T, h1, h2⟩
    have HAW : Hid (∀ T : Nat, T < k' → decide ((T : Int) ∈ hidTo xs k') = decide (showsTo xs (T : Int) xs.length = [])) := fun T hT => hid_away hT
    have HLE : Hid ((hidTo xs k').length ≤ k') := hidTo_len xs k'
    have HLn := Lib.hid hLn
    have HK := Lib.hid hlk
    clear hE g1 g2 g3 hS1 hL1 hL2 hH1 hs1 hs2 hs3 hLn C2 C4 hl hl'
    generalize overL xs ds = S at *
    generalize leastL (k' : Int) xs S = LL at *
    generalize hidTo xs k' = H at *
    have hk0 : ((k' : Int) == 0) = false := by simp; omega
    have hk48 : k' ≤ 48 := by omega
    have hmk := mkB k' (by omega)
    go_enter Try.func8, Try.ntmps8
    go_wp2_with fail
    refine CF.out.mono ?_
    rintro e w1 ⟨rfl, hb1⟩
    have B1 := bvia B0 hb1
    have HB := Lib.hid (K0.below hb1 K0.lt)
    have HO := Lib.hid (KO.below hb1 KO.lt)
    clear K0 KO hb1 CF B0
    have a0 : w1.cell? ⟨w.heap.size, 0, none⟩ = some (.int .i64 (k' : Int)) := HB.out.cell 0
    have a1 : w1.cell? ⟨w.heap.size, 1, none⟩ = some (.slice A n c) := HB.out.cell 1
    have a2 : w1.cell? ⟨w.heap.size, 2, none⟩ = some (.slice B m d) := HB.out.cell 2
    have q := HB.out.lt
    go_wp2_with fail
    refine (C1.out _ B1).mono ?_
    rintro e w2 ⟨A2, n2, c2, rfl, r2, l2, k2, k2', hb2⟩
    replace HO := Lib.hid (HO.out.below hb2 HO.out.lt)
    have B2 := bvia B1 hb2
    replace HB := Lib.hid (HB.out.below hb2 HB.out.lt)
    clear hb2 a0 a1 a2 q
    have HS := Lib.hid r2; clear r2
    have HSl := Lib.hid l2; clear l2
    have HSk : n2 ≤ 9223372036854775807 := Nat.le_trans k2 k2'
    clear k2 k2'
    obtain rfl : n = n2 := by rw [← HSl.out]; exact LS.out.symm
    have a0 : w2.cell? ⟨w.heap.size, 0, none⟩ = some (.int .i64 (k' : Int)) := HB.out.cell 0
    have a1 : w2.cell? ⟨w.heap.size, 1, none⟩ = some (.slice A n c) := HB.out.cell 1
    have a2 : w2.cell? ⟨w.heap.size, 2, none⟩ = some (.slice B m d) := HB.out.cell 2
    have q := HB.out.lt
    go_wp2_with fail
    refine (D2.out A2 c2 _ B2 HS.out).mono ?_
    rintro e w3 ⟨A3, n3, c3, rfl, r3, l3, k3, k3', hb3⟩
    replace HO := Lib.hid (HO.out.below hb3 HO.out.lt)
    have B3 := bvia B2 hb3
    replace HB := Lib.hid (HB.out.below hb3 HB.out.lt)
    replace HS := Lib.hid (HS.out.up hb3)
    clear hb3 a0 a1 a2 q
    have HM := Lib.hid r3; clear r3
    have HMl := Lib.hid l3; clear l3
    have HMk : n3 ≤ 9223372036854775807 := Nat.le_trans k3 k3'
    clear k3 k3'
    obtain rfl : k' = n3 := by rw [← HMl.out]; exact HLn.out.symm
    have a0 : w3.cell? ⟨w.heap.size, 0, none⟩ = some (.int .i64 (k' : Int)) := HB.out.cell 0
    have a1 : w3.cell? ⟨w.heap.size, 1, none⟩ = some (.slice A n c) := HB.out.cell 1
    have a2 : w3.cell? ⟨w.heap.size, 2, none⟩ = some (.slice B m d) := HB.out.cell 2
    have q := HB.out.lt
    go_wp2_with fail
    refine (C3.out _ B3).mono ?_
    rintro e w4 ⟨A4, n4, c4, rfl, r4, l4, k4, k4', hb4⟩
    replace HO := Lib.hid (HO.out.below hb4 HO.out.lt)
    have B4 := bvia B3 hb4
    replace HB := Lib.hid (HB.out.below hb4 HB.out.lt)
    replace HS := Lib.hid (HS.out.up hb4)
    replace HM := Lib.hid (HM.out.up hb4)
    clear hb4 a0 a1 a2 q
    have HH := Lib.hid r4; clear r4
    have HHl := Lib.hid l4; clear l4
    have HHk : n4 ≤ 9223372036854775807 := Nat.le_trans k4 k4'
    clear k4 k4'
    have a0 : w4.cell? ⟨w.heap.size, 0, none⟩ = some (.int .i64 (k' : Int)) := HB.out.cell 0
    have a1 : w4.cell? ⟨w.heap.size, 1, none⟩ = some (.slice A n c) := HB.out.cell 1
    have a2 : w4.cell? ⟨w.heap.size, 2, none⟩ = some (.slice B m d) := HB.out.cell 2
    have q := HB.out.lt
    go_wp2_with fail
    refine (D4.out A3 c3 _ B4 HM.out).mono ?_
    rintro e w5 ⟨rfl, hb5⟩
    replace HO := Lib.hid (HO.out.below hb5 HO.out.lt)
    have B5 := bvia B4 hb5
    replace HB := Lib.hid (HB.out.below hb5 HB.out.lt)
    replace HS := Lib.hid (HS.out.up hb5)
    replace HM := Lib.hid (HM.out.up hb5)
    replace HH := Lib.hid (HH.out.up hb5)
    clear hb5 a0 a1 a2 q
    have a0 : w5.cell? ⟨w.heap.size, 0, none⟩ = some (.int .i64 (k' : Int)) := HB.out.cell 0
    have a1 : w5.cell? ⟨w.heap.size, 1, none⟩ = some (.slice A n c) := HB.out.cell 1
    have a2 : w5.cell? ⟨w.heap.size, 2, none⟩ = some (.slice B m d) := HB.out.cell 2
    have q := HB.out.lt
    have HO5 := HO
    have HMk' := HMl.out
    have hG0 : Has (w5.alloc (.cells (madeCells #[.bool false] k') 4)) w5.heap.size 4 (awayL H k' 0) := Has.new (by rw [made_rep, awayL_zero])
    have HG0 := Lib.hid hG0; clear hG0
    have hkp : 0 < k' := by omega
    have h00 : decide ((2 : Int) ≤ (k' : Int)) = true := decide_eq_true ht2
    replace ht2 := Lib.hid ht2
    replace ht48 := Lib.hid ht48
    go_wp2
    go_loopw [16] (fun i wr => ∃ j : Nat, j ≤ n4 ∧ i = .int .i64 (j : Int) ∧ Hid (Has wr w5.heap.size 4 (awayL H k' j)) ∧ Below w5.heap.size w5 wr) (fun i _ => n4 - (intOf i).toNat)
    case atStart => exact ⟨0, Nat.zero_le _, rfl, HG0, by go_grown⟩
    case round =>
      clear HG0 hmk
      obtain ⟨j, hj, rfl, HG, hb⟩ := hrel
      obtain ⟨wo, rfl⟩ : ∃ wo : World, wo = wr := ⟨_, rfl⟩
      have qg := HG.out.lt
      by_cases hlt : j < n4
      · obtain ⟨v, hv⟩ := get_of_lt (l := H) (k := j) (by rw [HHl.out]; exact hlt)
        obtain ⟨T, rfl, hT⟩ := HHM.out v (mem_of_get hv)
        obtain ⟨ba, oa, rfl, hba, c0⟩ := HH.out _ _ hv
        have e0 := (hb.cell (p := ⟨ba, oa + j, none⟩) hba).trans c0
        have f0 := HG.out.free T
        have g0 := (HG.out.cell T).trans (awayL_get hT)
        have T4 : decide ((k' : Nat) ≤ T) = false := decide_eq_false (by omega)
        have jn : (j : Int) < (n4 : Int) := by omega
        have T1 : decide ((T : Int) < 0) = false := decide_eq_false (by omega)
        have T2 : decide ((k' : Int) ≤ (T : Int)) = false := decide_eq_false (by omega)
        have T3 : (T : Int) < (k' : Int) := by omega
        have HS1 : Hid (awayL H k' (j + 1) = (awayL H k' j).set T (.bool true)) := (awayL_set hv).symm
        clear hv c0
        go_wp2
        go_roundw
        case rel =>
          have h3 := HG.out.set T (.bool true)
          exact ⟨j + 1, by omega, by go_num, Lib.hid (by rw [HS1.out]; exact h3), hb.setCell (by simp) _⟩
        case measure => first | (simp [intOf]; done) | (simp [intOf]; omega)
      · obtain rfl : n4 = j := by omega
        have HAc : Hid (∀ T : Nat, T < k' → wo.cell? ⟨w5.heap.size, T, none⟩ = some (.bool (decide (showsTo xs (T : Int) xs.length = [])))) := fun T hT => by
          rw [HG.out.cell, awayL_get hT, List.take_of_length_le (by rw [HHl.out]; exact Nat.le_refl _), HAW.out T hT]
        have B6 := bvia B5 hb
        replace HB := Lib.hid (HB.out.below hb HB.out.lt)
        replace HO := Lib.hid (HO.out.below hb HO.out.lt)
        replace HM := Lib.hid (HM.out.up hb)
        replace HD := Lib.hid (HD.out.up B6)
        obtain ⟨ga, hga⟩ : ∃ ga, ga = w5.heap.size := ⟨_, rfl⟩
        rw [← hga] at HAc qg ⊢
        clear hb HG HH HHl HHM HAW HO5 HS HSl a0 a1 a2 q HLE B5 hga HX HP
        go_wp2
        go_loopw [17] (fun i wr => ∃ j : Nat, j ≤ k' ∧ i = .int .i64 (j : Int) ∧ Below wo.heap.size wo wr) (fun i _ => k' - (intOf i).toNat)
        case atStart => exact ⟨0, Nat.zero_le _, rfl, Below.refl _ _⟩
        case round =>
          obtain ⟨j, hj, rfl, hc⟩ := hrel
          obtain ⟨wq, rfl⟩ : ∃ wq : World, wq = wr := ⟨_, rfl⟩
          have hz := hc.size
          by_cases hlt : j < k'
          · obtain ⟨y, hy⟩ := get_of_lt (l := ds) (k := j) (by rw [HK.out]; exact hlt)
            have v0 := HAc.out j hlt
            have v1 := HLG.out j hlt
            have jn : (j : Int) < (k' : Int) := by omega
            by_cases hs : showsTo xs (j : Int) xs.length = []
            · rw [decide_eq_true hs] at v0; rw [if_pos hs] at v1
              obtain ⟨bd, od, rfl, hbd, d0⟩ := HD.out j y hy
              obtain ⟨bm, om, rfl, hbm, m0⟩ := HM.out j _ v1
              have x0 := (hc.cell (p := ⟨ga, j, none⟩) qg).trans v0
              have x1 := (hc.cell (p := ⟨bm, om + j, none⟩) hbm).trans m0
              have x2 := (hc.cell (p := ⟨bd, od + j, none⟩) hbd).trans d0
              have z0 : ga < wq.heap.size := Nat.lt_of_lt_of_le qg hz
              have z1 : bm < wq.heap.size := Nat.lt_of_lt_of_le hbm hz
              have z2 : bd < wq.heap.size := Nat.lt_of_lt_of_le hbd hz
              clear v0 v1 m0 d0 hs hy
              go_wp2
              have hxc := fun (x : Ext wq) => x.cell
              refine wp_region_ext (by kernel_rfl) (by kernel_rfl) ?_
              repeat (go_big_quiet_step (fail))
              refine wpQuiet_nil ?_
              intro w7 hw'
              have hb7 := ext_below hw'; clear hw' hxc
              have B7 := hc.trans (hb7.mono hz)
              clear hb7
              go_wp2
              go_roundw
              case rel => exact ⟨j + 1, by omega, by go_num, B7⟩
              case measure => first | (simp [intOf]; done) | (simp [intOf]; omega)
            · rw [decide_eq_false hs] at v0; rw [if_neg hs, List.getD_eq_getElem?_getD, hy, Option.getD_some] at v1
              obtain ⟨bd, od, rfl, hbd, d0⟩ := HD.out j y hy
              obtain ⟨bm, om, rfl, hbm, m0⟩ := HM.out j _ v1
              have x0 := (hc.cell (p := ⟨ga, j, none⟩) qg).trans v0
              have x1 := (hc.cell (p := ⟨bm, om + j, none⟩) hbm).trans m0
              have x2 := (hc.cell (p := ⟨bd, od + j, none⟩) hbd).trans d0
              have z0 : ga < wq.heap.size := Nat.lt_of_lt_of_le qg hz
              have z1 : bm < wq.heap.size := Nat.lt_of_lt_of_le hbm hz
              have z2 : bd < wq.heap.size := Nat.lt_of_lt_of_le hbd hz
              clear v0 v1 m0 d0 hs hy
              go_wp2
              have hxc := fun (x : Ext wq) => x.cell
              refine wp_region_ext (by kernel_rfl) (by kernel_rfl) ?_
              repeat (go_big_quiet_step (fail))
              refine wpQuiet_nil ?_
              intro w7 hw'
              have hb7 := ext_below hw'; clear hw' hxc
              have B7 := hc.trans (hb7.mono hz)
              clear hb7
              go_wp2
              go_roundw
              case rel => exact ⟨j + 1, by omega, by go_num, B7⟩
              case measure => first | (simp [intOf]; done) | (simp [intOf]; omega)
          · obtain rfl : k' = j := by omega
            have B7 := bvia B6 hc
            have HB7 := Lib.hid (HB.out.below hc HB.out.lt)
            have HO7 := Lib.hid (HO.out.below hc HO.out.lt)
            have HD7 := Lib.hid (HD.out.up hc)
            obtain ⟨x0, rfl⟩ := Int.eq_ofNat_of_zero_le hb0.1
            obtain ⟨x1, rfl⟩ := Int.eq_ofNat_of_zero_le hb1.1
            have z0 := hb0.2; have z1 := hb1.2
            have cw0 : IntKind.i64.wrap (x0 : Int) = (x0 : Int) := IntWalk.i64_in _ (by omega)
            have cw1 : IntKind.i64.wrap (x1 : Int) = (x1 : Int) := IntWalk.i64_in _ (by omega)
            have r0 : (x0 : Int).tmod (k' : Int) = ((x0 % k' : Nat) : Int) := rfl
            have r1 : (x1 : Int).tmod 16 = ((x1 % 16 : Nat) : Int) := rfl
            have htt : x0 % k' < k' := Nat.mod_lt _ hkp
            have hvv : x1 % 16 < 16 := Nat.mod_lt _ (by omega)
            generalize x0 % k' = tt at *
            generalize x1 % 16 = vv at *
            have cw2 : IntKind.i64.wrap (tt : Int) = (tt : Int) := IntWalk.i64_in _ (by omega)
            have cw3 : IntKind.i64.wrap (vv : Int) = (vv : Int) := IntWalk.i64_in _ (by omega)
            obtain ⟨old, hold⟩ := get_of_lt (l := ds) (k := tt) (by rw [HK.out]; exact htt)
            have o0 : wq.cell? ⟨w.heap.size + 1, 0, none⟩ = some (.int .u8 (x0 : Int)) := HO7.out.cell 0
            have qo := HO7.out.lt
            have tt3 : (tt : Int) < (k' : Int) := by omega
            have V0 := Lib.hid (HAc.out tt htt)
            have C5 := Lib.hid (fun (E : Option Addr) (e2 : Nat) (W : World) (h1 : Below w.heap.size w W) (h2 : RdI W W.heap.size E (ds.set tt (vv : Int))) => D5.out tt (vv : Int) old E e2 W htt (by omega) (by omega) hold h1 h2)
            have HOLD := Lib.hid hold
            clear hold D5 HAc HLG hb0 hb1 z0 z1 hlt HLn HM HMl HMk' D2 D4 C1 C3
            go_wp2_with (at_builtin; refine wpList_appI rfl (.tmp 163) (.tmp 164) rfl wq.heap.size (.slice (some ⟨wq.heap.size, 0, none⟩) 0 0) 0 [] rfl (own_lit0 (Nat.le_refl _)) D k' e ds rfl (HD7.out.up (by go_grown)) HK.out (by omega) (by simp) ?_)
            intro A5 c5 w7 hown hgrow
            have hb7 : Below wq.heap.size wq w7 := ((Below.refl _ wq).alloc (Nat.le_refl _) (.cells #[] 3)).grown hgrow (by simp) (fun k hk => by simp [Value.ownBlock] at hk; omega)
            try simp only [Nat.zero_add, List.nil_append] at hown
            try rw [Nat.zero_add]
            obtain ⟨g, rest, rfl, hg, hG, _⟩ := own_has hown hkp
            have HG7 := Lib.hid hG
            have o1 : w7.cell? ⟨w.heap.size + 1, 1, none⟩ = some (.int .u8 (x1 : Int)) := (HO7.out.below hb7 HO7.out.lt).cell 1
            have qo7 := (HO7.out.below hb7 HO7.out.lt).lt
            have f0 := hG.free tt
            have g0 : w7.cell? ⟨g, tt, none⟩ = some (.int .i64 old) := by
              rw [hG.cell, List.getElem?_append_left (by first | (rw [List.length_map, HK.out]; exact htt) | (rw [List.length_map, List.length_set, HK.out]; exact htt)), List.getElem?_map, HOLD.out]; rfl
            have qg7 := hG.lt
            have hbs7 := hb7
            clear hown hgrow hG o0 qo
            have bb8 := hbs7.setCell (p := ⟨g, tt, none⟩) (by simpa using hg) (.int .i64 (vv : Int))
            have hGG := HG7.out.set tt (.int .i64 (vv : Int))
            rw [List.set_append_left _ _ (by first | (rw [List.length_map, HK.out]; exact htt) | (rw [List.length_map, List.length_set, HK.out]; exact htt)), show (ds.map vInt).set tt (.int .i64 (vv : Int)) = (ds.set tt (vv : Int)).map vInt by rw [List.map_set]] at hGG
            have BB := bvia B7 bb8
            have HBB := Lib.hid (HB7.out.below bb8 HB7.out.lt)
            have HGG := Lib.hid hGG
            have BB := Lib.hid BB
            have bb8 := Lib.hid bb8
            clear hGG hb7 hbs7
            obtain ⟨w8, hw8⟩ : ∃ w8, w8 = w7.setCell ⟨g, tt, none⟩ (.int .i64 (vv : Int)) := ⟨_, rfl⟩
            rw [← hw8] at HGG BB HBB bb8
            obtain ⟨M, hM, hM2⟩ := C5.out (some ⟨g, 0, none⟩) c5 w8 BB.out (rdI_has HGG.out)
            have HM8 := Lib.hid hM
            have HM9 := Lib.hid hM2
            have a0 : w8.cell? ⟨w.heap.size, 0, none⟩ = some (.int .i64 (k' : Int)) := HBB.out.cell 0
            have a1 : w8.cell? ⟨w.heap.size, 1, none⟩ = some (.slice A n c) := HBB.out.cell 1
            have a2 : w8.cell? ⟨w.heap.size, 2, none⟩ = some (.slice B m d) := HBB.out.cell 2
            have q := HBB.out.lt
            rw [hw8] at a0 a1 a2 q
            clear hM hM2 C5
            go_wp2_with fail
            rw [← hw8]
            refine HM8.out.mono ?_
            rintro e' w9 ⟨rfl, hb9⟩
            have bb9 : Below wq.heap.size wq w9 := bvia bb8.out hb9
            have y0 := (bb9.cell (p := ⟨ga, tt, none⟩) (by simp; omega)).trans ((hc.cell (p := ⟨ga, tt, none⟩) qg).trans V0.out)
            have y1 : w9.cell? ⟨g, tt, none⟩ = some (.int .i64 (vv : Int)) := (hb9.cell (p := ⟨g, tt, none⟩) HGG.out.lt).trans (by
              rw [HGG.out.cell, List.getElem?_append_left (by first | (rw [List.length_map, HK.out]; exact htt) | (rw [List.length_map, List.length_set, HK.out]; exact htt)), List.getElem?_map, List.getElem?_set_self (by rw [HK.out]; exact htt)]; rfl)
            obtain ⟨bd, od, rfl, hbd, d0⟩ := HD7.out tt old HOLD.out
            have y2 := (bb9.cell (p := ⟨bd, od + tt, none⟩) hbd).trans d0
            have B9 := bvia BB.out hb9
            have z0 : ga < w9.heap.size := by have := bb9.size; omega
            have z1 : g < w9.heap.size := Nat.lt_of_lt_of_le HGG.out.lt hb9.size
            have z2 : bd < w9.heap.size := Nat.lt_of_lt_of_le hbd bb9.size
            have hM := HM9.out
            clear HM8 HM9 HGG HBB BB bb8 hb9 bb9 V0 HD7 HD a0 a1 a2 q o1 qo7 f0 g0 qg7 qg hw8 HB7 HO7 HG7 hc hz B7 B6 HOLD HK HO HB d0 hbd
            by_cases hs : showsTo xs (tt : Int) xs.length = []
            · rw [decide_eq_true hs] at y0 hM
              rw [Bool.true_or] at hM
              clear hs
              go_wp2
              have hxc := fun (x : Ext w9) => x.cell
              refine wp_region_ext (by kernel_rfl) (by kernel_rfl) ?_
              repeat (go_big_quiet_step ((go_at_call 13; exact ext_call (shown13 _))))
              refine wpQuiet_nil ?_
              intro w10 hw'
              have hb10 := ext_below hw'; clear hw' hxc
              go_wp2
              go_ret
              exact ⟨rfl, bvia B9 hb10⟩
            · rw [decide_eq_false hs] at y0 hM
              rw [Bool.false_or] at hM
              clear hs
              by_cases hv : (vv : Int) = old
              · have hv1 : ((vv : Int) == old) = true := by simpa using hv
                rw [decide_eq_true hv] at hM
                clear hv
                go_wp2
                have hxc := fun (x : Ext w9) => x.cell
                refine wp_region_ext (by kernel_rfl) (by kernel_rfl) ?_
                repeat (go_big_quiet_step ((go_at_call 13; exact ext_call (shown13 _))))
                refine wpQuiet_nil ?_
                intro w10 hw'
                have hb10 := ext_below hw'; clear hw' hxc
                go_wp2
                go_ret
                exact ⟨rfl, bvia B9 hb10⟩
              · have hv1 : ((vv : Int) == old) = false := by simpa using hv
                rw [decide_eq_false hv] at hM
                clear hv
                go_wp2
                have hxc := fun (x : Ext w9) => x.cell
                refine wp_region_ext (by kernel_rfl) (by kernel_rfl) ?_
                repeat (go_big_quiet_step ((go_at_call 13; exact ext_call (shown13 _))))
                refine wpQuiet_nil ?_
                intro w10 hw'
                have hb10 := ext_below hw'; clear hw' hxc
                go_wp2
                go_ret
                exact ⟨rfl, bvia B9 hb10⟩
  · have e1 : seenR t xs ps ds = [] := by unfold seenR; rw [if_neg hE]
    rw [e1] at C1
    generalize chkE t xs ps ds = r at *
    have hr : (r != 0) = true := by simpa using hE
    clear hE e1 C2 C3 C4
    go_enter Try.func8, Try.ntmps8
    go_wp2_with fail
    refine CF.out.mono ?_
    rintro e w1 ⟨rfl, hb1⟩
    have B1 := bvia B0 hb1
    have HB := Lib.hid (K0.below hb1 K0.lt)
    have HO := Lib.hid (KO.below hb1 KO.lt)
    clear K0 KO hb1 CF B0
    have a0 : w1.cell? ⟨w.heap.size, 0, none⟩ = some (.int .i64 t) := HB.out.cell 0
    have a1 : w1.cell? ⟨w.heap.size, 1, none⟩ = some (.slice A n c) := HB.out.cell 1
    have a2 : w1.cell? ⟨w.heap.size, 2, none⟩ = some (.slice B m d) := HB.out.cell 2
    have q := HB.out.lt
    go_wp2_with fail
    refine (C1.out _ B1).mono ?_
    rintro e w2 ⟨A2, n2, c2, rfl, r2, l2, k2, k2', hb2⟩
    obtain rfl : 0 = n2 := l2
    have B2 := bvia B1 hb2
    clear r2 HB HO a0 a1 a2 q
    go_wp2_with fail
    refine (shown13 _).mono ?_
    rintro e w3 ⟨rfl, hb3⟩
    go_wp2
    go_ret
    exact ⟨rfl, bvia B2 hb3⟩
end Go.Proofs.Ytnijfkidgndbdaa
