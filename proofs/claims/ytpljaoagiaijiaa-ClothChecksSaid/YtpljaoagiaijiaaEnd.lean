/-
  Contract of chapter 17: Ends.
-/
import Derived.Test.YtpljaoagiaijiaaFol
import Derived.Test.YtpljaoagiaijiaaApC
namespace Go.Proofs.Ytpljaoagiaijiaa
open Go.RowKit
def endsR (t : Int) (xs ps : List Q4) : List Int := if ckE t xs ps = 0 then (lineTo xs (lineL 48) xs.length).take t.toNat else []
theorem keepC_below {g B : Nat} {V W : World} (h : KeepC g V W) (hB : B ≤ g) (hV : B ≤ V.heap.size) : Below B V W := ⟨h.os, h.tape, h.output, h.size, fun i hi => h.same i (by omega) (by omega)⟩
theorem lineTo_next {xs : List Q4} {L : List Int} {k i : Nat} {x : Q4} {a b : Int} (h : xs[k]? = some x) (hi : x.b = (i : Int)) (ha : (lineTo xs L k)[i]? = some a) (hb : (lineTo xs L k)[i + 1]? = some b) : lineTo xs L (k + 1) = ((lineTo xs L k).set i b).set (i + 1) a := by
  show (match xs[k]? with | some x => swapL (lineTo xs L k) x | none => lineTo xs L k) = _
  rw [h]
  show swapL (lineTo xs L k) x = _
  unfold swapL
  rw [hi, show ((i : Nat) : Int).toNat = i by simp, List.getD_eq_getElem?_getD, List.getD_eq_getElem?_getD, ha, hb]; rfl
theorem rdI_hasC {w : World} {g : Nat} {t : TypeId} {L : List Int} (h : Has w g t (L.map vInt)) : RdI w w.heap.size (some ⟨g, 0, none⟩) L := fun k x hx => by
  refine ⟨g, 0, rfl, h.lt, ?_⟩
  rw [Nat.zero_add, h.cell, List.getElem?_map, hx]; rfl
set_option maxRecDepth 100000 in
set_option maxHeartbeats 4000000 in
theorem ends18 (t : Int) (A B : Option Addr) (n c m d : Nat) (xs ps : List Q4) (w : World) (hn : n ≤ 9223372036854775807) (hm : m ≤ 9223372036854775807) (hx : RdQ w w.heap.size A xs) (hp : RdQ w w.heap.size B ps)
    (hl : xs.length = n) (hl' : ps.length = m) (ht0 : -9223372036854775808 ≤ t) :
    Calls Try.prog 18 #[vCloth t A n c B m d] w (RetIE (endsR t xs ps) (ckE t xs ps) w) := by
  have HX := Lib.hid hx
  have C1 := Lib.hid (fun (W : World) (hb : Below w.heap.size w W) => check42 t A B n c m d xs ps W hn hm (hx.up hb) (hp.up hb) hl hl' ht0)
  clear hx hp
  have K0 : Has (w.alloc (.cells #[.int .i64 t, .slice A n c, .slice B m d] 30)) w.heap.size 30 [.int .i64 t, .slice A n c, .slice B m d] := Has.new rfl
  by_cases hE : ckE t xs ps = 0
  · obtain ⟨ht2, ht48, hn2, _⟩ := ckE_ok hE
    rw [hl] at hn2
    obtain ⟨Tn, rfl⟩ := Int.eq_ofNat_of_zero_le (show 0 ≤ t by omega)
    have hT : Tn ≤ 48 := by omega
    have hT' : (Tn : Int) ≤ 48 := by omega
    have hT0 : (0 : Int) ≤ (Tn : Int) := by omega
    have HCR := Lib.hid (fun x hx => (cross_ok hE x hx).2)
    have hR : endsR (Tn : Int) xs ps = (lineTo xs (lineL 48) n).take Tn := by unfold endsR; rw [if_pos hE, hl]; simp
    rw [hR, hE]
    rw [hE] at C1
    have HL := Lib.hid hl
    clear hR hE hl hl' ht2 ht48
    go_enter Try.func18, Try.ntmps18
    go_wp2_with fail
    refine (C1.out _ (by go_grown)).mono ?_
    rintro e w1 ⟨rfl, hb1⟩
    have B1 := bvia (show Below w.heap.size w _ by go_grown) hb1
    have HC := Lib.hid (K0.below hb1 K0.lt)
    clear K0 hb1 C1
    go_wp2_with fail
    refine (begun57 _).mono ?_
    rintro e w2 ⟨rfl, hb2⟩
    have hlen : ((lineL 48).map vInt).length = 48 := by simp [lineL_len]
    have hinfo : (Try.prog.info? 74).map (·.size) = some 48 := by kernel_rfl
    have B2 := bvia B1 hb2
    replace HC := Lib.hid (HC.out.below hb2 HC.out.lt)
    have HX2 := Lib.hid (HX.out.up B2)
    clear HX hb2 B1
    go_wp2_with (first | (refine wpList_store_has rfl 74 (.tmp 5) (.tmp 13) rfl w2.heap.size ((lineL 48).map vInt) rfl rfl 74 _ (Has.new rfl) (by rw [hlen, hinfo]) (by rw [hlen]; rfl) (by simp [lineL]; intros; rfl) ?_) | fail)
    intro w3 hG3 hBut
    have hb3 : Below w2.heap.size w2 w3 := ((Below.refl _ w2).alloc (Nat.le_refl _) _).trans (hBut.below (Nat.le_refl _) (by simp))
    have HG3 := Lib.hid hG3
    have HC3 := Lib.hid (HC.out.below hb3 HC.out.lt)
    obtain ⟨gl, hgl⟩ : ∃ gl, gl = w2.heap.size := ⟨_, rfl⟩
    have hglw : w.heap.size < gl := by have := HC.out.lt; omega
    rw [← hgl] at HG3 ⊢
    have a0 : w3.cell? ⟨w.heap.size, 0, none⟩ = some (.int .i64 (Tn : Int)) := HC3.out.cell 0
    have a1 : w3.cell? ⟨w.heap.size, 1, none⟩ = some (.slice A n c) := HC3.out.cell 1
    have q := HC3.out.lt
    have HGL := Lib.hid hgl
    clear hG3 hBut hlen hinfo HC hgl
    go_wp2
    go_loopw [17] (fun i wr => ∃ j : Nat, j ≤ n ∧ i = .int .i64 (j : Int) ∧ Hid (Has wr gl 74 ((lineTo xs (lineL 48) j).map vInt)) ∧ Hid (Has wr w.heap.size 30 [.int .i64 (Tn : Int), .slice A n c, .slice B m d]) ∧ Below w2.heap.size w2 wr) (fun i _ => n - (intOf i).toNat)
    case atStart => exact ⟨0, Nat.zero_le _, rfl, HG3, HC3, hb3⟩
    case round =>
      clear HG3 HC3 hb3 a0 a1 q
      obtain ⟨j, hj, rfl, HG, HC, hb⟩ := hrel
      obtain ⟨wo, rfl⟩ : ∃ wo : World, wo = wr := ⟨_, rfl⟩
      have hz := hb.size
      by_cases hlt : j < n
      · obtain ⟨x, hx⟩ := get_of_lt (l := xs) (k := j) (by rw [HL.out]; exact hlt)
        obtain ⟨r0, r1⟩ := HCR.out x (mem_of_get hx)
        obtain ⟨i, hi⟩ := Int.eq_ofNat_of_zero_le r0
        have hi48 : i + 1 < 48 := by omega
        obtain ⟨va, hva⟩ := get_of_lt (l := lineTo xs (lineL 48) j) (k := i) (by rw [lineTo_len, lineL_len]; omega)
        obtain ⟨vb, hvb⟩ := get_of_lt (l := lineTo xs (lineL 48) j) (k := i + 1) (by rw [lineTo_len, lineL_len]; omega)
        have HS := Lib.hid (lineTo_next hx hi hva hvb)
        obtain ⟨ba, o, rfl, hba, c0, c1, c2, c3⟩ := (HX2.out.up hb) _ x hx
        rw [hi] at c1
        have jn : (j : Int) < (n : Int) := by omega
        obtain ⟨w5, hw5⟩ : ∃ w5, w5 = wo.alloc (.cells #[.int .i64 x.a, .int .i64 (i : Int), .int .i64 x.c, .int .i64 x.d] 70) := ⟨_, rfl⟩
        have hb5 : Below wo.heap.size wo w5 := by rw [hw5]; go_grown
        have K5 : Has w5 wo.heap.size 70 [.int .i64 x.a, .int .i64 (i : Int), .int .i64 x.c, .int .i64 x.d] := by rw [hw5]; exact Has.new rfl
        go_upto_region 8 with (fail)
        rw [← hw5]
        obtain ⟨gx, hgx⟩ : ∃ gx, gx = wo.heap.size := ⟨_, rfl⟩
        rw [← hgx] at K5 ⊢
        have k1 : w5.cell? ⟨gx, 1, none⟩ = some (.int .i64 (i : Int)) := K5.cell 1
        have qx := K5.lt
        have HG5 := Lib.hid (HG.out.below hb5 HG.out.lt)
        have HC5 := Lib.hid (HC.out.below hb5 HC.out.lt)
        have B5 := hb.trans (hb5.mono hz)
        have J := Lib.hid (swap65 gl i _ va vb w5 HG5.out hi48 (by rw [List.getElem?_map, hva]; rfl) (by rw [List.getElem?_map, hvb]; rfl))
        clear hx hi hva hvb r0 r1 c0 c1 c2 c3 hb5 hw5 K5 hgx HG HC hb
        go_wp2_with fail
        refine J.out.mono ?_
        rintro e' w6 ⟨⟨v, rfl⟩, hG6, hK, _⟩
        have hb6 := keepC_below hK (show gl ≤ gl from Nat.le_refl _) (Nat.le_of_lt HG5.out.lt)
        have B6 := B5.trans (hb6.mono (Nat.le_of_eq HGL.out.symm))
        have HC6 := Lib.hid (HC5.out.below hb6 hglw)
        have HG6 : Hid (Has w6 gl 74 ((lineTo xs (lineL 48) (j + 1)).map vInt)) := by
          show Has w6 gl 74 ((lineTo xs (lineL 48) (j + 1)).map vInt)
          rw [HS.out, List.map_set, List.map_set]; exact hG6
        clear hG6 hK hb6
        go_wp2
        go_roundw
        case rel => exact ⟨j + 1, by omega, by go_num, HG6, HC6, B6⟩
        case measure => first | (simp [intOf]; done) | (simp [intOf]; omega)
      · obtain rfl : n = j := by omega
        have a0 : wo.cell? ⟨w.heap.size, 0, none⟩ = some (.int .i64 (Tn : Int)) := HC.out.cell 0
        have q := HC.out.lt
        have qg := HG.out.lt
        have J := Lib.hid (clone48 (some ⟨gl, 0, none⟩) Tn 48 ((lineTo xs (lineL 48) n).take Tn) wo (rdI_take (rdI_hasC HG.out)) (by rw [List.length_take, lineTo_len, lineL_len]; omega) (by omega))
        have B7 := bvia B2 hb
        go_wp2_with fail
        refine J.out.mono ?_
        rintro e' w7 ⟨A7, n7, c7, rfl, r7, l7, hb7⟩
        have HR7 := Lib.hid r7; clear r7
        have hcc := own_caps HR7.out
        go_wp2
        go_ret2
        exact ⟨A7, n7, c7, rfl, own_rd1 HR7.out, l7, hcc.1, hcc.2, bvia B7 hb7⟩
  · have e2 : endsR t xs ps = [] := by unfold endsR; rw [if_neg hE]
    rw [e2]
    generalize ckE t xs ps = r at *
    have hr : (r != 0) = true := by simpa using hE
    clear hE e2
    go_enter Try.func18, Try.ntmps18
    go_wp2_with fail
    refine (C1.out _ (by go_grown)).mono ?_
    rintro e w1 ⟨rfl, hb1⟩
    have B1 := bvia (show Below w.heap.size w _ by go_grown) hb1
    clear K0 hb1 C1
    go_wp2
    go_ret2
    exact ⟨none, 0, 0, rfl, Rd1.nil _ _ _ _, rfl, Nat.le_refl _, by omega, B1⟩
end Go.Proofs.Ytpljaoagiaijiaa
