/-
  Contracts of chapter 21: the document's Seen and Back.
-/
import Derived.Test.YtnijfkidgndbdaaRan
namespace Go.Proofs.Ytnijfkidgndbdaa
open Go.RowKit
set_option maxRecDepth 100000 in
set_option maxHeartbeats 1000000 in
theorem seen15 (t : Int) (A B D : Option Addr) (n c m d k e : Nat) (xs ps : List Q4) (ds : List Int) (w : World) (hn : n ≤ 9223372036854775807) (hm : m ≤ 9223372036854775807) (hk : k ≤ 9223372036854775807) (hx : RdQ w w.heap.size A xs) (hp : RdQ w w.heap.size B ps) (hd : RdI w w.heap.size D ds)
    (hl : xs.length = n) (hl' : ps.length = m) (hlk : ds.length = k) (ht0 : -9223372036854775808 ≤ t) :
    Calls Try.prog 15 #[vCloth t A n c B m d, .slice D k e] w (RetIE (seenR t xs ps ds) (chkE t xs ps ds) w) := by
  have HX := Lib.hid hx
  have HD := Lib.hid hd
  have C1 := Lib.hid (fun (W : World) (hb : Below w.heap.size w W) => check21 t A B D n c m d k e xs ps ds W hn hm hk (hx.up hb) (hp.up hb) (hd.up hb) hl hl' hlk ht0)
  clear hx hp hd
  have HL := Lib.hid hl; clear hl
  have HK := Lib.hid hlk; clear hlk
  have K0 : Has (w.alloc (.cells #[.int .i64 t, .slice A n c, .slice B m d] 25)) w.heap.size 25 [.int .i64 t, .slice A n c, .slice B m d] := Has.new rfl
  unfold seenR
  by_cases hE : chkE t xs ps ds = 0
  · obtain ⟨g1, g2, g3⟩ := chkE_ok hE
    have HO := Lib.hid (cross_ok g1)
    have hn2 : n ≤ 20000 := by have := (ckE_ok g1).2.2.1; rw [HL.out] at this; exact this
    have HT := Lib.hid g2
    rw [if_pos hE]
    rw [hE] at C1 ⊢
    clear hE g1 g2 g3 hl'
    go_enter Try.func15, Try.ntmps15
    go_wp2_with fail
    refine (C1.out _ (by go_grown)).mono ?_
    rintro e w1 ⟨rfl, hb1⟩
    have B1 := bvia (show Below w.heap.size w _ by go_grown) hb1
    have HC := Lib.hid (K0.below hb1 K0.lt)
    clear K0 hb1 C1
    go_wp2
    go_loopw [7, 8] (fun v i wr => ∃ (j : Nat) (A' : Option Addr) (c' : Nat), j ≤ n ∧ i = .int .i64 (j : Int) ∧ v = .slice A' j c' ∧ wr.ownsRow w1.heap.size 3 1 v j ((overL (xs.take j) ds).map vInt) ∧ Below w1.heap.size w1 wr) (fun _ i _ => n - (intOf i).toNat)
    case atStart => exact ⟨0, none, 0, Nat.zero_le _, rfl, rfl, World.ownsRow_nil _ _ _ _, Below.refl _ _⟩
    case round =>
      obtain ⟨j, A', c', hj, rfl, rfl, hown, hb⟩ := hrel
      obtain ⟨wo, rfl⟩ : ∃ wo : World, wo = wr := ⟨_, rfl⟩
      have HO' := Lib.hid hown; clear hown
      have hz := hb.size
      have hh := HC.out.below hb HC.out.lt
      have a0 : wo.cell? ⟨w.heap.size, 0, none⟩ = some (.int .i64 t) := hh.cell 0
      have a1 : wo.cell? ⟨w.heap.size, 1, none⟩ = some (.slice A n c) := hh.cell 1
      have q := hh.lt
      clear hh
      by_cases hlt : j < n
      · obtain ⟨x, hx⟩ := get_of_lt (l := xs) (k := j) (by rw [HL.out]; exact hlt)
        obtain ⟨ba, o, rfl, hba, c0, c1, c2, c3⟩ := (HX.out.below (B' := w.heap.size) (bvia' B1 (Nat.le_refl _) hb) (Nat.le_refl _)) _ x hx
        obtain ⟨⟨⟨hc0, hc1⟩, hd0, hd1⟩, _⟩ := HO.out x (mem_of_get hx)
        obtain ⟨i, hi⟩ := Int.eq_ofNat_of_zero_le (show 0 ≤ x.c by omega)
        have hiT : i < k := by have h1 := HT.out; have h2 := HK.out; omega
        obtain ⟨v, hv⟩ := get_of_lt (l := ds) (k := i) (by rw [HK.out]; exact hiT)
        obtain ⟨bd, od, hDD, hbd, e0⟩ := (HD.out.below (B' := w.heap.size) (bvia' B1 (Nat.le_refl _) hb) (Nat.le_refl _)) _ v hv
        subst hDD
        have HS : Hid (overL (xs.take (j + 1)) ds = overL (xs.take j) ds ++ [v]) := by
          show overL (xs.take (j + 1)) ds = _
          unfold overL
          rw [map_take_succ _ hx, hi]
          have e2 : ((i : Nat) : Int).toNat = i := by simp
          rw [e2, List.getD_eq_getElem?_getD, hv]; rfl
        rw [hi] at c2
        clear hx hi hv hc0 hc1 hd0 hd1
        have hi0 : (0 : Int) ≤ (i : Int) := by omega
        have hi1 : (i : Int) < (k : Int) := by omega
        go_wp2_with (at_builtin; refine wpList_app rfl (.tmp 22) (.tmp 32) _ rfl w1.heap.size 3 (.int .i64 0) 1 8 Try.underlying26 infoInt rfl (by omega) (by omega) _ _ _ rfl (HO'.out.alloc _) wo.heap.size [vInt v] rfl rfl (news_new _ _ _) (one_int _ _) (by omega) (by simp; omega) ?_; intro ga cap1 w2 hg1 hown1 hgrow1 hor1)
        go_roundw
        case rel => exact ⟨j + 1, some ⟨ga, 0, none⟩, cap1, by omega, by go_num, rfl, by rw [HS.out]; simpa using hown1, (hb.alloc hz _).grown hgrow1 (by simp; omega) (fun kk hk => (HO'.out.lt kk hk).1)⟩
        case measure => first | (simp [intOf]; done) | (simp [intOf]; omega)
      · obtain rfl : j = n := by omega
        have HA : Hid (xs.take j = xs) := List.take_of_length_le (by rw [HL.out]; exact Nat.le_refl _)
        rw [HA.out] at HO'
        clear HA
        have hcc := own_caps HO'.out
        go_wp2
        go_ret2
        refine ⟨A', j, c', rfl, own_rd1 HO'.out, by unfold overL; rw [List.length_map, HL.out], hcc.1, hcc.2, bvia B1 hb⟩
  · rw [if_neg hE]
    generalize chkE t xs ps ds = r at *
    have hr : (r != 0) = true := by simpa using hE
    clear hE
    go_enter Try.func15, Try.ntmps15
    go_wp2_with fail
    refine (C1.out _ (by go_grown)).mono ?_
    rintro e w1 ⟨rfl, hb1⟩
    have B1 := bvia (show Below w.heap.size w _ by go_grown) hb1
    clear K0 hb1
    go_wp2
    go_ret2
    exact ⟨none, 0, 0, rfl, Rd1.nil _ _ _ _, rfl, Nat.le_refl _, by omega, B1⟩
set_option maxRecDepth 100000 in
set_option maxHeartbeats 1000000 in
theorem back20 (t : Int) (A B D : Option Addr) (n c m d k e : Nat) (xs ps : List Q4) (ds : List Int) (w : World) (hn : n ≤ 9223372036854775807) (hm : m ≤ 9223372036854775807) (hk : k ≤ 9223372036854775807) (hx : RdQ w w.heap.size A xs) (hp : RdQ w w.heap.size B ps) (hd : RdI w w.heap.size D ds)
    (hl : xs.length = n) (hl' : ps.length = m) (hlk : ds.length = k) (ht0 : -9223372036854775808 ≤ t) :
    Calls Try.prog 20 #[vCloth t A n c B m d, .slice D k e] w (RetIE (backR t xs ps ds) (chkE t xs ps ds) w) := by
  have HX := Lib.hid hx
  have HD := Lib.hid hd
  have C1 := Lib.hid (fun (W : World) (hb : Below w.heap.size w W) => check21 t A B D n c m d k e xs ps ds W hn hm hk (hx.up hb) (hp.up hb) (hd.up hb) hl hl' hlk ht0)
  clear hx hp hd
  have HL := Lib.hid hl; clear hl
  have HK := Lib.hid hlk; clear hlk
  have K0 : Has (w.alloc (.cells #[.int .i64 t, .slice A n c, .slice B m d] 25)) w.heap.size 25 [.int .i64 t, .slice A n c, .slice B m d] := Has.new rfl
  unfold backR
  by_cases hE : chkE t xs ps ds = 0
  · obtain ⟨g1, g2, g3⟩ := chkE_ok hE
    have HO := Lib.hid (cross_ok g1)
    have hn2 : n ≤ 20000 := by have := (ckE_ok g1).2.2.1; rw [HL.out] at this; exact this
    have HT := Lib.hid g2
    rw [if_pos hE]
    rw [hE] at C1 ⊢
    clear hE g1 g2 g3 hl'
    go_enter Try.func20, Try.ntmps20
    go_wp2_with fail
    refine (C1.out _ (by go_grown)).mono ?_
    rintro e w1 ⟨rfl, hb1⟩
    have B1 := bvia (show Below w.heap.size w _ by go_grown) hb1
    have HC := Lib.hid (K0.below hb1 K0.lt)
    clear K0 hb1 C1
    go_wp2
    go_loopw [7, 8] (fun v i wr => ∃ (j : Nat) (A' : Option Addr) (c' : Nat), j ≤ n ∧ i = .int .i64 (j : Int) ∧ v = .slice A' j c' ∧ wr.ownsRow w1.heap.size 3 1 v j ((underL (xs.take j) ds).map vInt) ∧ Below w1.heap.size w1 wr) (fun _ i _ => n - (intOf i).toNat)
    case atStart => exact ⟨0, none, 0, Nat.zero_le _, rfl, rfl, World.ownsRow_nil _ _ _ _, Below.refl _ _⟩
    case round =>
      obtain ⟨j, A', c', hj, rfl, rfl, hown, hb⟩ := hrel
      obtain ⟨wo, rfl⟩ : ∃ wo : World, wo = wr := ⟨_, rfl⟩
      have HO' := Lib.hid hown; clear hown
      have hz := hb.size
      have hh := HC.out.below hb HC.out.lt
      have a0 : wo.cell? ⟨w.heap.size, 0, none⟩ = some (.int .i64 t) := hh.cell 0
      have a1 : wo.cell? ⟨w.heap.size, 1, none⟩ = some (.slice A n c) := hh.cell 1
      have q := hh.lt
      clear hh
      by_cases hlt : j < n
      · obtain ⟨x, hx⟩ := get_of_lt (l := xs) (k := j) (by rw [HL.out]; exact hlt)
        obtain ⟨ba, o, rfl, hba, c0, c1, c2, c3⟩ := (HX.out.below (B' := w.heap.size) (bvia' B1 (Nat.le_refl _) hb) (Nat.le_refl _)) _ x hx
        obtain ⟨⟨⟨hc0, hc1⟩, hd0, hd1⟩, _⟩ := HO.out x (mem_of_get hx)
        obtain ⟨i, hi⟩ := Int.eq_ofNat_of_zero_le (show 0 ≤ x.d by omega)
        have hiT : i < k := by have h1 := HT.out; have h2 := HK.out; omega
        obtain ⟨v, hv⟩ := get_of_lt (l := ds) (k := i) (by rw [HK.out]; exact hiT)
        obtain ⟨bd, od, hDD, hbd, e0⟩ := (HD.out.below (B' := w.heap.size) (bvia' B1 (Nat.le_refl _) hb) (Nat.le_refl _)) _ v hv
        subst hDD
        have HS : Hid (underL (xs.take (j + 1)) ds = underL (xs.take j) ds ++ [v]) := by
          show underL (xs.take (j + 1)) ds = _
          unfold underL
          rw [map_take_succ _ hx, hi]
          have e2 : ((i : Nat) : Int).toNat = i := by simp
          rw [e2, List.getD_eq_getElem?_getD, hv]; rfl
        rw [hi] at c3
        clear hx hi hv hc0 hc1 hd0 hd1
        have hi0 : (0 : Int) ≤ (i : Int) := by omega
        have hi1 : (i : Int) < (k : Int) := by omega
        go_wp2_with (at_builtin; refine wpList_app rfl (.tmp 22) (.tmp 32) _ rfl w1.heap.size 3 (.int .i64 0) 1 8 Try.underlying26 infoInt rfl (by omega) (by omega) _ _ _ rfl (HO'.out.alloc _) wo.heap.size [vInt v] rfl rfl (news_new _ _ _) (one_int _ _) (by omega) (by simp; omega) ?_; intro ga cap1 w2 hg1 hown1 hgrow1 hor1)
        go_roundw
        case rel => exact ⟨j + 1, some ⟨ga, 0, none⟩, cap1, by omega, by go_num, rfl, by rw [HS.out]; simpa using hown1, (hb.alloc hz _).grown hgrow1 (by simp; omega) (fun kk hk => (HO'.out.lt kk hk).1)⟩
        case measure => first | (simp [intOf]; done) | (simp [intOf]; omega)
      · obtain rfl : j = n := by omega
        have HA : Hid (xs.take j = xs) := List.take_of_length_le (by rw [HL.out]; exact Nat.le_refl _)
        rw [HA.out] at HO'
        clear HA
        have hcc := own_caps HO'.out
        go_wp2
        go_ret2
        refine ⟨A', j, c', rfl, own_rd1 HO'.out, by unfold underL; rw [List.length_map, HL.out], hcc.1, hcc.2, bvia B1 hb⟩
  · rw [if_neg hE]
    generalize chkE t xs ps ds = r at *
    have hr : (r != 0) = true := by simpa using hE
    clear hE
    go_enter Try.func20, Try.ntmps20
    go_wp2_with fail
    refine (C1.out _ (by go_grown)).mono ?_
    rintro e w1 ⟨rfl, hb1⟩
    have B1 := bvia (show Below w.heap.size w _ by go_grown) hb1
    clear K0 hb1
    go_wp2
    go_ret2
    exact ⟨none, 0, 0, rfl, Rd1.nil _ _ _ _, rfl, Nat.le_refl _, by omega, B1⟩
end Go.Proofs.Ytnijfkidgndbdaa
