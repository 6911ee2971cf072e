/-
  Contracts of chapter 21: Shows, Hidden (both packages).
-/
import Derived.Test.YtnijfkidgndbdaaShw
namespace Go.Proofs.Ytnijfkidgndbdaa
open Go.RowKit
/-- the threads before the k-th that show nowhere -/
def hidTo (xs : List Q4) : Nat → List Int
  | 0 => []
  | k + 1 => if showsTo xs (k : Int) xs.length = [] then hidTo xs k ++ [(k : Int)] else hidTo xs k
theorem hidTo_len (xs : List Q4) : ∀ k, (hidTo xs k).length ≤ k
  | 0 => Nat.le_refl _
  | k + 1 => by
    have ih := hidTo_len xs k
    unfold hidTo
    split
    · rw [List.length_append]; simp; exact ih
    · omega
def hidR (t : Int) (xs ps : List Q4) : List Int := if ckE t xs ps = 0 then hidTo xs t.toNat else []
set_option maxRecDepth 100000 in
set_option maxHeartbeats 1000000 in
theorem shows32 (t : Int) (A B : Option Addr) (n c m d : Nat) (th : Int) (xs ps : List Q4) (w : World) (hn : n ≤ 9223372036854775807) (hm : m ≤ 9223372036854775807) (hx : RdQ w w.heap.size A xs) (hp : RdQ w w.heap.size B ps)
    (hl : xs.length = n) (hl' : ps.length = m) (ht0 : -9223372036854775808 ≤ t) :
    Calls Try.prog 32 #[vCloth t A n c B m d, .int .i64 th] w (RetIE (showR t xs ps th) (showE t xs ps th) w) := by
  have C1 := Lib.hid (fun (W : World) (hb : Below w.heap.size w W) => check42 t A B n c m d xs ps W hn hm (hx.up hb) (hp.up hb) hl hl' ht0)
  have K0 : Has (w.alloc (.cells #[.int .i64 t, .slice A n c, .slice B m d] 25)) w.heap.size 25 [.int .i64 t, .slice A n c, .slice B m d] := Has.new rfl
  by_cases hE : ckE t xs ps = 0
  · have hE0 := hE
    rw [hE] at C1
    by_cases h0 : th < 0
    · have e1 : showE t xs ps th = 2 := by unfold showE; rw [if_pos hE, if_neg (by omega)]
      have e2 : showR t xs ps th = [] := by unfold showR; rw [e1]; rfl
      rw [e1, e2]
      have d0 : decide (th < 0) = true := decide_eq_true h0
      clear e1 e2 h0 hE hE0 hx hp
      go_enter Try.func32, Try.ntmps32
      go_wp2_with fail
      refine (C1.out _ (by go_grown)).mono ?_
      rintro e w1 ⟨rfl, hb1⟩
      have B1 := bvia (show Below w.heap.size w _ by go_grown) hb1
      have HC := Lib.hid (K0.below hb1 K0.lt)
      have a0 : w1.cell? ⟨w.heap.size, 0, none⟩ = some (.int .i64 t) := HC.out.cell 0
      have a1 : w1.cell? ⟨w.heap.size, 1, none⟩ = some (.slice A n c) := HC.out.cell 1
      have a2 : w1.cell? ⟨w.heap.size, 2, none⟩ = some (.slice B m d) := HC.out.cell 2
      have q := HC.out.lt
      clear K0 hb1 C1
      go_wp2
      go_ret2
      exact ⟨none, 0, 0, rfl, Rd1.nil _ _ _ _, rfl, Nat.le_refl _, by omega, B1⟩
    · have d0 : decide (th < 0) = false := decide_eq_false h0
      by_cases h1 : t ≤ th
      · have e1 : showE t xs ps th = 2 := by unfold showE; rw [if_pos hE, if_neg (by omega)]
        have e2 : showR t xs ps th = [] := by unfold showR; rw [e1]; rfl
        rw [e1, e2]
        have d1 : decide (t ≤ th) = true := decide_eq_true h1
        clear e1 e2 h0 h1 hE hE0 hx hp
        go_enter Try.func32, Try.ntmps32
        go_wp2_with fail
        refine (C1.out _ (by go_grown)).mono ?_
        rintro e w1 ⟨rfl, hb1⟩
        have B1 := bvia (show Below w.heap.size w _ by go_grown) hb1
        have HC := Lib.hid (K0.below hb1 K0.lt)
        have a0 : w1.cell? ⟨w.heap.size, 0, none⟩ = some (.int .i64 t) := HC.out.cell 0
        have a1 : w1.cell? ⟨w.heap.size, 1, none⟩ = some (.slice A n c) := HC.out.cell 1
        have a2 : w1.cell? ⟨w.heap.size, 2, none⟩ = some (.slice B m d) := HC.out.cell 2
        have q := HC.out.lt
        clear K0 hb1 C1
        go_wp2
        go_ret2
        exact ⟨none, 0, 0, rfl, Rd1.nil _ _ _ _, rfl, Nat.le_refl _, by omega, B1⟩
      · have e1 : showE t xs ps th = 0 := by unfold showE; rw [if_pos hE, if_pos (by omega)]
        have e2 : showR t xs ps th = showsTo xs th n := by unfold showR; rw [e1, hl]; rfl
        rw [e1, e2]
        have d1 : decide (t ≤ th) = false := decide_eq_false h1
        obtain ⟨i, rfl⟩ := Int.eq_ofNat_of_zero_le (show 0 ≤ th by omega)
        obtain ⟨Tn, rfl⟩ := Int.eq_ofNat_of_zero_le (show 0 ≤ t by omega)
        have hiT : i < Tn := by omega
        have hiT' : (i : Int) < (Tn : Int) := by omega
        have hi0 : (0 : Int) ≤ (i : Int) := by omega
        have C2 := Lib.hid (fun (W : World) (hb : Below w.heap.size w W) => shows54 Tn A B n c m d xs ps W (hx.up hb) hl hE0)
        clear e1 e2 h0 h1 hE hE0 hx hp
        go_enter Try.func32, Try.ntmps32
        go_wp2_with fail
        refine (C1.out _ (by go_grown)).mono ?_
        rintro e w1 ⟨rfl, hb1⟩
        have B1 := bvia (show Below w.heap.size w _ by go_grown) hb1
        have HC := Lib.hid (K0.below hb1 K0.lt)
        have a0 : w1.cell? ⟨w.heap.size, 0, none⟩ = some (.int .i64 (Tn : Int)) := HC.out.cell 0
        have a1 : w1.cell? ⟨w.heap.size, 1, none⟩ = some (.slice A n c) := HC.out.cell 1
        have a2 : w1.cell? ⟨w.heap.size, 2, none⟩ = some (.slice B m d) := HC.out.cell 2
        have q := HC.out.lt
        clear K0 hb1 C1
        go_wp2_with fail
        refine (C2.out _ B1).mono ?_
        rintro e w2 ⟨g, V, rfl, hR, hg, hb2⟩
        obtain ⟨A', c', hV⟩ := own_form (hR.rows i hiT)
        have g0 : w2.cell? ⟨g, i, none⟩ = some (.slice A' (showsTo xs (i : Int) n).length c') := (hR.has.cell i).trans ((rows_get hiT).trans (congrArg some hV))
        have hO := hR.rows i hiT
        rw [hV] at hO
        have hcc := own_caps hO
        have HO := Lib.hid hO
        clear hO hR hV
        go_wp2
        go_ret2
        exact ⟨A', _, c', rfl, own_rd1 HO.out, rfl, hcc.1, hcc.2, bvia B1 hb2⟩
  · have e1 : showE t xs ps th = ckE t xs ps := by unfold showE; rw [if_neg hE]
    have e2 : showR t xs ps th = [] := by unfold showR; rw [e1, if_neg hE]
    rw [e1, e2]
    generalize ckE t xs ps = r at *
    have hr : (r != 0) = true := by simpa using hE
    clear hE e1 e2 hx hp
    go_enter Try.func32, Try.ntmps32
    go_wp2_with fail
    refine (C1.out _ (by go_grown)).mono ?_
    rintro e w1 ⟨rfl, hb1⟩
    have B1 := bvia (show Below w.heap.size w _ by go_grown) hb1
    have HC := Lib.hid (K0.below hb1 K0.lt)
    have a0 : w1.cell? ⟨w.heap.size, 0, none⟩ = some (.int .i64 t) := HC.out.cell 0
    have a1 : w1.cell? ⟨w.heap.size, 1, none⟩ = some (.slice A n c) := HC.out.cell 1
    have a2 : w1.cell? ⟨w.heap.size, 2, none⟩ = some (.slice B m d) := HC.out.cell 2
    have q := HC.out.lt
    clear K0 hb1 C1
    go_wp2
    go_ret2
    exact ⟨none, 0, 0, rfl, Rd1.nil _ _ _ _, rfl, Nat.le_refl _, by omega, B1⟩
set_option maxRecDepth 100000 in
set_option maxHeartbeats 2000000 in
theorem hidden31 (t : Int) (A B : Option Addr) (n c m d : Nat) (xs ps : List Q4) (w : World) (hn : n ≤ 9223372036854775807) (hm : m ≤ 9223372036854775807) (hx : RdQ w w.heap.size A xs) (hp : RdQ w w.heap.size B ps)
    (hl : xs.length = n) (hl' : ps.length = m) (ht0 : -9223372036854775808 ≤ t) :
    Calls Try.prog 31 #[vCloth t A n c B m d] w (RetIE (hidR t xs ps) (ckE t xs ps) w) := by
  have C1 := Lib.hid (fun (W : World) (hb : Below w.heap.size w W) => check42 t A B n c m d xs ps W hn hm (hx.up hb) (hp.up hb) hl hl' ht0)
  have K0 : Has (w.alloc (.cells #[.int .i64 t, .slice A n c, .slice B m d] 25)) w.heap.size 25 [.int .i64 t, .slice A n c, .slice B m d] := Has.new rfl
  by_cases hE : ckE t xs ps = 0
  · have hE0 := hE
    rw [hE] at C1
    obtain ⟨g1, g2, _⟩ := ckE_ok hE
    obtain ⟨Tn, rfl⟩ := Int.eq_ofNat_of_zero_le (show 0 ≤ t by omega)
    have hTn : Tn ≤ 48 := by omega
    have e2 : hidR (Tn : Int) xs ps = hidTo xs Tn := by unfold hidR; rw [if_pos hE, show ((Tn : Nat) : Int).toNat = Tn by simp]
    rw [e2, hE]
    have HL := Lib.hid hl
    have C2 := Lib.hid (fun (W : World) (hb : Below w.heap.size w W) => shows54 Tn A B n c m d xs ps W (hx.up hb) hl hE0)
    clear e2 hE hE0 hx hp g1 g2 hl hl'
    go_enter Try.func31, Try.ntmps31
    go_wp2_with fail
    refine (C1.out _ (by go_grown)).mono ?_
    rintro e w1 ⟨rfl, hb1⟩
    have B1 := bvia (show Below w.heap.size w _ by go_grown) hb1
    have HC := Lib.hid (K0.below hb1 K0.lt)
    have a0 : w1.cell? ⟨w.heap.size, 0, none⟩ = some (.int .i64 (Tn : Int)) := HC.out.cell 0
    have a1 : w1.cell? ⟨w.heap.size, 1, none⟩ = some (.slice A n c) := HC.out.cell 1
    have a2 : w1.cell? ⟨w.heap.size, 2, none⟩ = some (.slice B m d) := HC.out.cell 2
    have q := HC.out.lt
    clear K0 hb1 C1
    go_wp2_with fail
    refine (C2.out _ B1).mono ?_
    rintro e w3 ⟨g, V, rfl, hR, hg, hb3⟩
    have B3 := bvia B1 hb3
    have HR := Lib.hid hR
    clear hR hb3 C2 B1 a0 a1 q
    go_wp2
    go_loopw [5, 16] (fun v i wr => ∃ (T l : Nat) (A' : Option Addr) (c' : Nat), T ≤ Tn ∧ l ≤ T ∧ i = .int .i64 (T : Int) ∧ v = .slice A' l c' ∧ (hidTo xs T).length = l ∧ wr.ownsRow w3.heap.size 3 1 v l ((hidTo xs T).map vInt) ∧ Below w3.heap.size w3 wr) (fun _ i _ => Tn - (intOf i).toNat)
    case atStart => exact ⟨0, 0, none, 0, Nat.zero_le _, Nat.le_refl _, rfl, rfl, rfl, World.ownsRow_nil _ _ _ _, Below.refl _ _⟩
    case round =>
      obtain ⟨T, l, A', c', hT, hlT, rfl, rfl, hll, hown, hb⟩ := hrel
      obtain ⟨wo, rfl⟩ : ∃ wo : World, wo = wr := ⟨_, rfl⟩
      have HO' := Lib.hid hown; clear hown
      have HLL := Lib.hid hll; clear hll
      have hz := hb.size
      by_cases hlt : T < Tn
      · obtain ⟨A2, c2, hV⟩ := own_form (HR.out.rows T hlt)
        have g0 : wo.cell? ⟨g, T, none⟩ = some (.slice A2 (showsTo xs (T : Int) n).length c2) := (hb.cell (p := ⟨g, T, none⟩) HR.out.has.lt).trans ((HR.out.has.cell T).trans ((rows_get hlt).trans (congrArg some hV)))
        have hT' : (T : Int) < (Tn : Int) := by omega
        clear hV
        obtain ⟨ls, hls⟩ : ∃ ls, ls = (showsTo xs (T : Int) n).length := ⟨_, rfl⟩
        rw [← hls] at g0
        have HLS := Lib.hid hls; clear hls
        by_cases h0 : ls = 0
        · have HS : Hid (hidTo xs (T + 1) = hidTo xs T ++ [(T : Int)]) := by
            show (if showsTo xs (T : Int) xs.length = [] then hidTo xs T ++ [(T : Int)] else hidTo xs T) = _
            rw [if_pos (by rw [HL.out]; exact List.eq_nil_of_length_eq_zero (by rw [← HLS.out]; exact h0))]
          have h0d : ((ls : Int) == 0) = true := by simp [h0]
          clear h0
          go_wp2_with (at_builtin; refine wpList_app rfl (.tmp 24) (.tmp 26) _ rfl w3.heap.size 3 (.int .i64 0) 1 8 Try.underlying26 infoInt rfl (by omega) (by omega) _ _ _ rfl (HO'.out.alloc _) wo.heap.size [vInt (T : Int)] rfl rfl (news_new _ _ _) (one_int _ _) (by omega) (by simp; omega) ?_; intro ga cap1 w7 hg1 hown1 hgrow1 hor1)
          go_roundw
          case rel => exact ⟨T + 1, l + 1, some ⟨ga, 0, none⟩, cap1, by omega, by omega, by go_num, rfl, by rw [HS.out, List.length_append, HLL.out]; rfl, by rw [HS.out]; simpa using hown1, (hb.alloc hz _).grown hgrow1 (by simp; omega) (fun kk hk => (HO'.out.lt kk hk).1)⟩
          case measure => first | (simp [intOf]; done) | (simp [intOf]; omega)
        · have HS : Hid (hidTo xs (T + 1) = hidTo xs T) := by
            show (if showsTo xs (T : Int) xs.length = [] then hidTo xs T ++ [(T : Int)] else hidTo xs T) = _
            rw [if_neg (by rw [HL.out]; intro h; rw [h] at HLS; exact h0 HLS.out)]
          have h0d : ((ls : Int) == 0) = false := by simp [h0]
          clear h0
          go_wp2
          go_roundw
          case rel => exact ⟨T + 1, l, A', c', by omega, by omega, by go_num, rfl, by rw [HS.out, HLL.out], by rw [HS.out]; exact HO'.out, hb⟩
          case measure => first | (simp [intOf]; done) | (simp [intOf]; omega)
      · obtain rfl : T = Tn := by omega
        have hcc := own_caps HO'.out
        go_wp2
        go_ret2
        exact ⟨A', l, c', rfl, own_rd1 HO'.out, HLL.out, hcc.1, hcc.2, bvia B3 hb⟩
  · have e2 : hidR t xs ps = [] := by unfold hidR; rw [if_neg hE]
    rw [e2]
    generalize ckE t xs ps = r at *
    have hr : (r != 0) = true := by simpa using hE
    clear hE e2 hx hp
    go_enter Try.func31, Try.ntmps31
    go_wp2_with fail
    refine (C1.out _ (by go_grown)).mono ?_
    rintro e w1 ⟨rfl, hb1⟩
    have B1 := bvia (show Below w.heap.size w _ by go_grown) hb1
    have HC := Lib.hid (K0.below hb1 K0.lt)
    have a0 : w1.cell? ⟨w.heap.size, 0, none⟩ = some (.int .i64 t) := HC.out.cell 0
    have a1 : w1.cell? ⟨w.heap.size, 1, none⟩ = some (.slice A n c) := HC.out.cell 1
    have a2 : w1.cell? ⟨w.heap.size, 2, none⟩ = some (.slice B m d) := HC.out.cell 2
    have q := HC.out.lt
    clear K0 hb1 C1
    go_wp2
    go_ret2
    exact ⟨none, 0, 0, rfl, Rd1.nil _ _ _ _, rfl, Nat.le_refl _, by omega, B1⟩
set_option maxRecDepth 100000 in
set_option maxHeartbeats 2000000 in
theorem hidden34 (t : Int) (A B : Option Addr) (n c m d : Nat) (xs ps : List Q4) (w : World) (hn : n ≤ 9223372036854775807) (hm : m ≤ 9223372036854775807) (hx : RdQ w w.heap.size A xs) (hp : RdQ w w.heap.size B ps)
    (hl : xs.length = n) (hl' : ps.length = m) (ht0 : -9223372036854775808 ≤ t) :
    Calls Try.prog 34 #[vCloth t A n c B m d] w (RetIE (hidR t xs ps) (ckE t xs ps) w) := by
  have C1 := Lib.hid (fun (W : World) (hb : Below w.heap.size w W) => check17 t A B n c m d xs ps W hn hm (hx.up hb) (hp.up hb) hl hl' ht0)
  have K0 : Has (w.alloc (.cells #[.int .i64 t, .slice A n c, .slice B m d] 25)) w.heap.size 25 [.int .i64 t, .slice A n c, .slice B m d] := Has.new rfl
  by_cases hE : ckE t xs ps = 0
  · have hE0 := hE
    rw [hE] at C1
    obtain ⟨g1, g2, _⟩ := ckE_ok hE
    obtain ⟨Tn, rfl⟩ := Int.eq_ofNat_of_zero_le (show 0 ≤ t by omega)
    have hTn : Tn ≤ 48 := by omega
    have e2 : hidR (Tn : Int) xs ps = hidTo xs Tn := by unfold hidR; rw [if_pos hE, show ((Tn : Nat) : Int).toNat = Tn by simp]
    rw [e2, hE]
    have HL := Lib.hid hl
    have H3 : Hid (∀ th : Int, 0 ≤ th → th < (Tn : Int) → showE (Tn : Int) xs ps th = 0 ∧ showR (Tn : Int) xs ps th = showsTo xs th xs.length) := fun th h0 h1 => showR_ok hE h0 h1
    have C3 := Lib.hid (fun (th : Int) (W : World) (hb : Below w.heap.size w W) => shows33 (Tn : Int) A B n c m d th xs ps W hn hm (hx.up hb) (hp.up hb) hl hl' ht0)
    clear e2 hE hE0 hx hp g1 g2 hl hl'
    go_enter Try.func34, Try.ntmps34
    go_wp2_with fail
    refine (C1.out _ (by go_grown)).mono ?_
    rintro e w1 ⟨rfl, hb1⟩
    have B1 := bvia (show Below w.heap.size w _ by go_grown) hb1
    have HC := Lib.hid (K0.below hb1 K0.lt)
    have a0 : w1.cell? ⟨w.heap.size, 0, none⟩ = some (.int .i64 (Tn : Int)) := HC.out.cell 0
    have a1 : w1.cell? ⟨w.heap.size, 1, none⟩ = some (.slice A n c) := HC.out.cell 1
    have a2 : w1.cell? ⟨w.heap.size, 2, none⟩ = some (.slice B m d) := HC.out.cell 2
    have q := HC.out.lt
    clear K0 hb1 C1
    go_wp2
    obtain ⟨w3, rfl⟩ : ∃ w3 : World, w3 = w1 := ⟨_, rfl⟩
    have B3 := B1
    clear B1 a0 a1 q
    go_loopw [5, 6] (fun v i wr => ∃ (T l : Nat) (A' : Option Addr) (c' : Nat), T ≤ Tn ∧ l ≤ T ∧ i = .int .i64 (T : Int) ∧ v = .slice A' l c' ∧ (hidTo xs T).length = l ∧ wr.ownsRow w3.heap.size 3 1 v l ((hidTo xs T).map vInt) ∧ Below w3.heap.size w3 wr) (fun _ i _ => Tn - (intOf i).toNat)
    case atStart => exact ⟨0, 0, none, 0, Nat.zero_le _, Nat.le_refl _, rfl, rfl, rfl, World.ownsRow_nil _ _ _ _, Below.refl _ _⟩
    case round =>
      obtain ⟨T, l, A', c', hT, hlT, rfl, rfl, hll, hown, hb⟩ := hrel
      obtain ⟨wo, rfl⟩ : ∃ wo : World, wo = wr := ⟨_, rfl⟩
      have HO' := Lib.hid hown; clear hown
      have HLL := Lib.hid hll; clear hll
      have hz := hb.size
      have hh := HC.out.below hb HC.out.lt
      have a0 : wo.cell? ⟨w.heap.size, 0, none⟩ = some (.int .i64 (Tn : Int)) := hh.cell 0
      have a1 : wo.cell? ⟨w.heap.size, 1, none⟩ = some (.slice A n c) := hh.cell 1
      have a2 : wo.cell? ⟨w.heap.size, 2, none⟩ = some (.slice B m d) := hh.cell 2
      have q := hh.lt
      clear hh
      by_cases hlt : T < Tn
      · obtain ⟨s1, s2⟩ := H3.out (T : Int) (by omega) (by omega)
        have C4 := C3.out (T : Int) wo (bvia' B3 (Nat.le_refl _) hb)
        rw [s1, s2] at C4
        have HC4 := Lib.hid C4; clear C4 s1 s2
        go_wp2_with fail
        refine HC4.out.mono ?_
        rintro e' w4 ⟨A4, n4, c4, rfl, hR4, hl4, hb4⟩
        have HO4 := Lib.hid (own_below HO'.out hb4)
        have B4 := hb.trans (hb4.mono hz)
        have hz4 := B4.size
        have HL4 := Lib.hid hl4
        clear hR4 hl4 hb4 HO' a0 a1 a2 q HC4
        by_cases h0 : n4 = 0
        · have HS : Hid (hidTo xs (T + 1) = hidTo xs T ++ [(T : Int)]) := by
            show (if showsTo xs (T : Int) xs.length = [] then hidTo xs T ++ [(T : Int)] else hidTo xs T) = _
            rw [if_pos (List.eq_nil_of_length_eq_zero (by rw [HL4.out]; exact h0))]
          have h0d : ((n4 : Int) == 0) = true := by simp [h0]
          clear h0
          go_wp2_with (at_builtin; refine wpList_app rfl (.tmp 29) (.tmp 31) _ rfl w3.heap.size 3 (.int .i64 0) 1 8 Try.underlying26 infoInt rfl (by omega) (by omega) _ _ _ rfl (HO4.out.alloc _) w4.heap.size [vInt (T : Int)] rfl rfl (news_new _ _ _) (one_int _ _) (by omega) (by simp; omega) ?_; intro ga cap1 w7 hg1 hown1 hgrow1 hor1)
          go_roundw
          case rel => exact ⟨T + 1, l + 1, some ⟨ga, 0, none⟩, cap1, by omega, by omega, by go_num, rfl, by rw [HS.out, List.length_append, HLL.out]; rfl, by rw [HS.out]; simpa using hown1, (B4.alloc hz4 _).grown hgrow1 (by simp; omega) (fun kk hk => (HO4.out.lt kk hk).1)⟩
          case measure => first | (simp [intOf]; done) | (simp [intOf]; omega)
        · have HS : Hid (hidTo xs (T + 1) = hidTo xs T) := by
            show (if showsTo xs (T : Int) xs.length = [] then hidTo xs T ++ [(T : Int)] else hidTo xs T) = _
            rw [if_neg (by intro h; have := HL4.out; rw [h] at this; exact h0 this.symm)]
          have h0d : ((n4 : Int) == 0) = false := by simp [h0]
          clear h0
          go_wp2
          go_roundw
          case rel => exact ⟨T + 1, l, A', c', by omega, by omega, by go_num, rfl, by rw [HS.out, HLL.out], by rw [HS.out]; exact HO4.out, B4⟩
          case measure => first | (simp [intOf]; done) | (simp [intOf]; omega)
      · obtain rfl : T = Tn := by omega
        have hcc := own_caps HO'.out
        go_wp2
        go_ret2
        exact ⟨A', l, c', rfl, own_rd1 HO'.out, HLL.out, hcc.1, hcc.2, bvia B3 hb⟩
  · have e2 : hidR t xs ps = [] := by unfold hidR; rw [if_neg hE]
    rw [e2]
    generalize ckE t xs ps = r at *
    have hr : (r != 0) = true := by simpa using hE
    clear hE e2 hx hp
    go_enter Try.func34, Try.ntmps34
    go_wp2_with fail
    refine (C1.out _ (by go_grown)).mono ?_
    rintro e w1 ⟨rfl, hb1⟩
    have B1 := bvia (show Below w.heap.size w _ by go_grown) hb1
    have HC := Lib.hid (K0.below hb1 K0.lt)
    have a0 : w1.cell? ⟨w.heap.size, 0, none⟩ = some (.int .i64 t) := HC.out.cell 0
    have a1 : w1.cell? ⟨w.heap.size, 1, none⟩ = some (.slice A n c) := HC.out.cell 1
    have a2 : w1.cell? ⟨w.heap.size, 2, none⟩ = some (.slice B m d) := HC.out.cell 2
    have q := HC.out.lt
    clear K0 hb1 C1
    go_wp2
    go_ret2
    exact ⟨none, 0, 0, rfl, Rd1.nil _ _ _ _, rfl, Nat.le_refl _, by omega, B1⟩
end Go.Proofs.Ytnijfkidgndbdaa
