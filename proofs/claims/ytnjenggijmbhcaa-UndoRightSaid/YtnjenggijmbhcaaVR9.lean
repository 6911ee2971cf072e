/-
  Walk of the law UndoRight, given undo.Net's contract.
-/
import Derived.Test.YtnjenggijmbhcaaVK11
import Derived.Test.YtnjenggijmbhcaaVR1
import Derived.Test.YtnjenggijmbhcaaVR4
import Derived.Test.YtnjenggijmbhcaaVR6
import Derived.Test.YtnjenggijmbhcaaVR7
import Derived.Test.YtnjenggijmbhcaaVR8
namespace Go.Proofs.Ytnjenggijmbhcaa
open Go.RowKit
set_option maxRecDepth 100000 in
set_option maxHeartbeats 40000000 in
theorem rightP (NU : NetSays) (p span at_ k a : Int) (s : ByteArray) (A : Option Addr) (n c : Nat) (l : List Wk) (w : World) (hnc : n ≤ c) (hc : c ≤ 9223372036854775807) (hw : RdW w w.heap.size A l) (hl : l.length = n) (hs : ∀ x ∈ l, x.word.size ≤ 9223372036854775807) (hs2 : s.size ≤ 9223372036854775807) :
    Calls Try.prog 9 #[.agg #[.int .i64 p, .int .i64 span, .slice A n c, .int .i64 at_, .int .i64 k, .int .i64 a, .string s]] w fun e w' => e = .returned (.bool true) ∧ Below w.heap.size w w' := by
  have AWK := Lib.hid (fun W => awakeOf NU W)
  have HW := Lib.hid hw
  have HL := Lib.hid hl
  have HS := Lib.hid hs
  clear NU hw hl hs
  have G0 : Has (w.alloc (.cells #[.int .i64 p, .int .i64 span, .slice A n c, .int .i64 at_, .int .i64 k, .int .i64 a, .string s] 49)) w.heap.size 49 [.int .i64 p, .int .i64 span, .slice A n c, .int .i64 at_, .int .i64 k, .int .i64 a, .string s] := Has.new rfl
  have B0 : Below w.heap.size w (w.alloc (.cells #[.int .i64 p, .int .i64 span, .slice A n c, .int .i64 at_, .int .i64 k, .int .i64 a, .string s] 49)) := by go_grown
  by_cases h1 : 60 < n
  · have h1' : (60 : Int) < (n : Int) := by omega
    go_enter Try.func9, Try.ntmps9
    go_wp2_with fail
    refine (AWK.out _).mono ?_
    rintro e w1 ⟨rfl, hb1⟩
    go_wp2
    go_ret
    exact ⟨rfl, bvia B0 hb1⟩
  have h1' : ¬ (60 : Int) < (n : Int) := by omega
  by_cases h2 : 100 < s.size
  · have h2' : (100 : Int) < (s.size : Int) := by omega
    go_enter Try.func9, Try.ntmps9
    go_wp2_with fail
    refine (AWK.out _).mono ?_
    rintro e w1 ⟨rfl, hb1⟩
    go_wp2
    go_ret
    exact ⟨rfl, bvia B0 hb1⟩
  have h2' : ¬ (100 : Int) < (s.size : Int) := by omega
  have CM := Lib.hid (unMend p span at_ k a s A n c l _ hnc hc (HW.out.up B0) HL.out HS.out hs2)
  obtain ⟨OUT, hOUT⟩ : ∃ l', l' = mdL p span l at_ ⟨k, a, s⟩ := ⟨_, rfl⟩
  obtain ⟨ER, hER⟩ : ∃ e', e' = mdE p span l at_ ⟨k, a, s⟩ := ⟨_, rfl⟩
  rw [← hOUT, ← hER] at CM
  have HOUT := Lib.hid hOUT
  have HER := Lib.hid hER
  clear hOUT hER
  go_enter Try.func9, Try.ntmps9
  go_upto_region 1 with (fail)
  have B0' := Lib.hid B0
  generalize hw0 : (w.alloc (.cells #[.int .i64 p, .int .i64 span, .slice A n c, .int .i64 at_, .int .i64 k, .int .i64 a, .string s] 49)) = w0 at *
  have hz0 : w0.heap.size = w.heap.size + 1 := by rw [← hw0]; simp
  have f0 := G0.cell 0
  have f1 := G0.cell 1
  have f2 := G0.cell 2
  have f3 := G0.cell 3
  have f4 := G0.cell 4
  have f5 := G0.cell 5
  have f6 := G0.cell 6
  have q0 := G0.lt
  have HG0 := Lib.hid G0
  clear hw0 G0 B0 h1 h2
  go_wp2_with fail
  refine CM.out.mono ?_
  rintro e w1 ⟨A3, n3, c3, rfl, r3, l3, hn3, hc3, hb1⟩
  have B1 := Lib.hid (B0'.out.trans (hb1.mono (by omega)))
  have HG1 := Lib.hid (HG0.out.below hb1 HG0.out.lt)
  have HR3 := Lib.hid r3
  have HL3 := Lib.hid l3
  have hB1 : w.heap.size + 1 ≤ w1.heap.size := by have := hb1.size; omega
  clear CM f0 f1 f2 f3 f4 f5 f6 q0 hb1 HG0 B0' h1' h2' r3 l3
  by_cases hE : ER = 0
  case neg =>
    have hne : (ER != 0) = true := by simpa using hE
    clear hE
    go_wp2_with fail
    refine (AWK.out _).mono ?_
    rintro e w2 ⟨rfl, hb2⟩
    go_wp2
    go_ret
    exact ⟨rfl, B1.out.trans (hb2.mono (by omega))⟩
  subst hE
  obtain ⟨e1, e2, e3, e4⟩ := mdE_zero HER.out.symm
  have HO : Hid (OUT = mdOut p span l at_ ⟨k, a, s⟩) := by show _ = _; rw [HOUT.out]; unfold mdL; rw [if_pos HER.out.symm]
  obtain ⟨b1, b2⟩ := plE_zero e2
  obtain ⟨z1, z2, z3, z4⟩ := askE_zero b1
  have OKS := sheet_ok e1
  have V2 := schk_zero z4
  have bb := valid_at V2 ⟨k, a, s⟩ (by simp)
  obtain ⟨t, rfl⟩ := Int.eq_ofNat_of_zero_le z2
  obtain ⟨b, rfl⟩ := Int.eq_ofNat_of_zero_le bb.1
  have hOK := out_ok e1 e2 e3 e4
  have OKM := sheet_ok hOK
  have hsp : 2 ≤ span ∧ span ≤ 8 ∧ span ≤ p := of_decide_eq_true b2
  obtain ⟨ws, hws⟩ : ∃ ws, ws = wksOf l := ⟨_, rfl⟩
  have HNA : Hid (Alike (netL (wksOf OUT)) (netL (ws.set t ⟨k, (b : Int), s⟩))) := by
    obtain ⟨pn, rfl⟩ : ∃ q : Nat, p = (q : Int) := ⟨p.toNat, by omega⟩
    obtain ⟨sn, rfl⟩ : ∃ q : Nat, span = (q : Int) := ⟨span.toNat, by omega⟩
    have h := net_right28 (p := pn) (s := sn) (ws := wksOf l) (x := ⟨k, (b : Int), s⟩) (at_ := t) (by omega) OKS V2 (by omega)
    rw [HO.out]
    unfold mdOut plU plR
    rw [if_pos e2, if_pos e2, wksOf_app, wksOf_app, hws]
    exact h
  have hts : t < ws.length := by rw [hws]; omega
  have OKR : SOk p (ws.set t ⟨k, (b : Int), s⟩) := by
    rw [← hws] at OKS
    have hm : ∀ y ∈ ws.set t ⟨k, (b : Int), s⟩, y = ⟨k, (b : Int), s⟩ ∨ y ∈ ws := fun y hy => (List.mem_or_eq_of_mem_set hy).symm
    exact ⟨OKS.le, OKS.ge, by rw [List.length_set]; exact OKS.len, fun y hy => (hm y hy).elim (fun e => by rw [e]; exact V2.short _ (by simp)) (OKS.short y), fun y hy => (hm y hy).elim (fun e => by rw [e]; exact V2.good _ (by simp)) (OKS.good y), fun y hy => (hm y hy).elim (fun e => by rw [e]; exact V2.form _ (by simp)) (OKS.form y)⟩
  have HE1 := Lib.hid e1
  have HOKO : Hid (sheetE p span OUT = 0) := by show _ = _; rw [HO.out]; exact hOK
  have HOKS : Hid (SOk p ws) := by show SOk _ _; rw [hws]; exact OKS
  have HOKR := Lib.hid OKR
  have HOKM : Hid (SOk p (wksOf OUT)) := by show SOk _ _; rw [HO.out]; exact OKM
  have HSO : Hid (∀ y ∈ OUT, y.word.size ≤ 9223372036854775807) := fun y hy => by
    have hsub : ∀ (x : Wk) (h : Int) (m : Nat) (L : List Wk), shE p span h m L = 0 → x ∈ L → x.word.size ≤ 16 := fun x h m L => by
      induction L generalizing h m with
      | nil => intro _ hx; cases hx
      | cons z L ih =>
        intro hz hx
        have hd : doE p span h m z = 0 := Decidable.byContradiction fun hne => by rw [shE_err hne] at hz; exact hne hz
        rcases List.mem_cons.1 hx with e | e
        · subst e; exact (wchk_zero (doE_at hd).2.1).1
        · by_cases k1 : z.kind = 1
          · rw [shE_reach hd k1] at hz; exact ih _ _ hz e
          · rw [shE_work hd k1] at hz; exact ih _ _ hz e
    have := hsub y _ _ _ (sheetE_zero HOKO.out).2.2.2.2 hy
    omega
  have HWS := Lib.hid hws
  have hn31 : n3 ≤ 1000 := by have := HL3.out; rw [HO.out] at this; omega
  have hn3l : n ≤ n3 := by have := HL3.out; rw [HO.out] at this; unfold mdOut at this; rw [List.length_append, HL.out] at this; omega
  clear e1 e2 e3 e4 b1 b2 z1 z2 z3 z4 OKS V2 bb hOK OKM OKR hws hsp
  have f0 := HG1.out.cell 0
  have f1 := HG1.out.cell 1
  have f2 := HG1.out.cell 2
  have q0 := HG1.out.lt
  have CS := Lib.hid (sheet15o p span A n c l w1 (by omega) (HW.out.up B1.out) HL.out HS.out)
  go_wp2_with fail
  refine CS.out.mono ?_
  rintro e w2 ⟨q, B, nb, cb, bad, rfl, hb2, hok⟩
  rw [HE1.out]
  obtain ⟨rfl, ho2, lb⟩ := hok HE1.out
  rw [← HWS.out] at ho2 lb
  obtain ⟨g, rest, rfl, hg, HR2⟩ := own_has8 ho2 (by omega)
  have hcb := own_caps ho2
  have B2 := Lib.hid (B1.out.trans (hb2.mono (by omega)))
  have HG2 := Lib.hid (HG1.out.below hb2 HG1.out.lt)
  have HRB := Lib.hid HR2
  have HR32 := Lib.hid (HR3.out.up hb2)
  have HLB := Lib.hid lb
  have hz2 := hb2.size
  clear CS f0 f1 f2 q0 hok ho2 hb2 HG1 HR2 HR3 lb
  go_upto_region 7 with (fail)
  have K5 : Has (w2.alloc (.cells #[.int .i64 q, .slice (some ⟨g, 0, none⟩) nb cb] 24)) w2.heap.size 24 [.int .i64 q, .slice (some ⟨g, 0, none⟩) nb cb] := Has.new rfl
  have B3 : Below w2.heap.size w2 (w2.alloc (.cells #[.int .i64 q, .slice (some ⟨g, 0, none⟩) nb cb] 24)) := by go_grown
  have HG3 := Lib.hid (HG2.out.below B3 HG2.out.lt)
  have HRB3 := Lib.hid (HRB.out.below B3 HRB.out.lt)
  have HR33 := Lib.hid (HR32.out.up B3)
  have B3' := Lib.hid (B2.out.trans (B3.mono (by omega)))
  have hz3 := B3.size
  have CO := sheet15o q span A3 n3 c3 OUT (w2.alloc (.cells #[.int .i64 q, .slice (some ⟨g, 0, none⟩) nb cb] 24)) (by omega) HR33.out HL3.out HSO.out
  rw [HOKO.out] at CO
  have HCO := Lib.hid CO
  have hg1 : g < w2.heap.size := HRB.out.lt
  clear CO B3 HG2 HRB HR32 B2
  generalize hw3 : (w2.alloc (.cells #[.int .i64 q, .slice (some ⟨g, 0, none⟩) nb cb] 24)) = w3 at *
  obtain ⟨bs, hbs⟩ : ∃ bs, bs = w2.heap.size := ⟨_, rfl⟩
  simp only [← hbs]
  rw [← hbs] at K5 hg1 hz3
  have HK5 := Lib.hid K5
  clear hw3 K5 hbs
  have f0 := HG3.out.cell 0
  have f1 := HG3.out.cell 1
  have q0 := HG3.out.lt
  go_wp2_with fail
  refine HCO.out.mono ?_
  rintro e w4 ⟨q2, D, nd, cd, bad2, rfl, hb4, hok4⟩
  obtain ⟨rfl, ho4, ld⟩ := hok4 rfl
  have rd := own_rdW ho4
  obtain ⟨hnd, hcd⟩ := own_caps ho4
  have HDG : Hid (∀ b' o', D = some ⟨b', o', none⟩ → b' ≠ g) := fun b' o' e => by
    have := (ho4.lt b' (by rw [e]; rfl)).1
    omega
  clear ho4
  have HG4 := Lib.hid (HG3.out.below hb4 HG3.out.lt)
  have HRB4 := Lib.hid (HRB3.out.below hb4 HRB3.out.lt)
  have HR34 := Lib.hid (HR33.out.up hb4)
  have HK4 := Lib.hid (HK5.out.below hb4 HK5.out.lt)
  have B4 := Lib.hid (B3'.out.trans (hb4.mono (by omega)))
  have hz4 := hb4.size
  have HRD := Lib.hid rd
  have HLD := Lib.hid ld
  clear HCO f0 f1 q0 hb4 hok4 rd ld HG3 HRB3 HR33 HK5 B3'
  go_upto_region 8 with (fail)
  have K7 : Has (w4.alloc (.cells #[.int .i64 q2, .slice D nd cd] 24)) w4.heap.size 24 [.int .i64 q2, .slice D nd cd] := Has.new rfl
  have B5 : Below w4.heap.size w4 (w4.alloc (.cells #[.int .i64 q2, .slice D nd cd] 24)) := by go_grown
  have HG5 := Lib.hid (HG4.out.below B5 HG4.out.lt)
  have HRB5 := Lib.hid (HRB4.out.below B5 HRB4.out.lt)
  have HR35 := Lib.hid (HR34.out.up B5)
  have HK5 := Lib.hid (HK4.out.below B5 HK4.out.lt)
  have HRD5 := Lib.hid (HRD.out.up B5)
  have B5' := Lib.hid (B4.out.trans (B5.mono (by omega)))
  have hz5 := B5.size
  have hbs4 : bs < w4.heap.size := HK4.out.lt
  clear B5 HG4 HRB4 HR34 HK4 HRD B4
  generalize hw5 : (w4.alloc (.cells #[.int .i64 q2, .slice D nd cd] 24)) = w5 at *
  obtain ⟨bm, hbm⟩ : ∃ bm, bm = w4.heap.size := ⟨_, rfl⟩
  simp only [← hbm]
  rw [← hbm] at K7 hbs4 hz5
  have HK7 := Lib.hid K7
  clear hw5 K7 hbm
  have f2 : w5.cell? ⟨w.heap.size, 2, none⟩ = some (.slice A n c) := HG5.out.cell 2
  have f3 : w5.cell? ⟨w.heap.size, 3, none⟩ = some (.int .i64 (t : Int)) := HG5.out.cell 3
  have q0 : w.heap.size < w5.heap.size := HG5.out.lt
  have s1 : w5.cell? ⟨bs, 1, none⟩ = some (.slice (some ⟨g, 0, none⟩) nb cb) := HK5.out.cell 1
  have s2 := HK5.out.lt
  have hSL := fun W' => slice_to8 47 3 (by kernel_rfl) (fun W => by kernel_rfl) A3 n3 c3 n (by omega) W'
  have htn : t < nb := by rw [← HLB.out]; exact hts
  have d1 : decide ((t : Int) < 0) = false := decide_eq_false (by omega)
  have d2 : decide ((nb : Int) ≤ (t : Int)) = false := decide_eq_false (by omega)
  have d2' : decide (nb ≤ t) = false := decide_eq_false (by omega)
  have d3 : decide ((n3 : Int) < (n : Int)) = false := decide_eq_false (by omega)
  have d3' : decide (n3 < n) = false := decide_eq_false (by omega)
  have HTK : Hid (∀ W : World, Below w5.heap.size w5 W → RdW W W.heap.size A3 l ∧ RdW W W.heap.size A l) := fun W hW => by
    have h := HR35.out.up hW
    rw [HO.out] at h
    unfold mdOut at h
    exact ⟨h.take, (HW.out.up B5'.out).up hW⟩
  have CSS : Hid (∀ W : World, Below w5.heap.size w5 W → Calls Try.prog 32 #[.slice A3 n c3, .slice A n c] W fun e w' => e = .returned (.bool true) ∧ Below W.heap.size W w') := fun W hW => by
    have h := sameSt A3 A n n c3 c l l W (by omega) (by omega) (HTK.out W hW).1 (HTK.out W hW).2 HL.out HL.out
    rw [show (l == l) = true from beq_self_eq_true l] at h
    exact h
  go_wp2
  have hxc := fun (x : Ext w5) => x.cell
  refine wp_region_ext (by kernel_rfl) (by kernel_rfl) ?_
  repeat (go_big_quiet_step ((go_at_call 32; exact ext_call (CSS.out _ (Ext.below _)))))
  refine wpQuiet_nil ?_
  intro w6 hw'
  have hb6 := ext_below hw'; clear hw' hxc
  have HG6 := Lib.hid (HG5.out.below hb6 HG5.out.lt)
  have HRB6 := Lib.hid (HRB5.out.below hb6 HRB5.out.lt)
  have HK6 := Lib.hid (HK5.out.below hb6 HK5.out.lt)
  have HM6 := Lib.hid (HK7.out.below hb6 HK7.out.lt)
  have HRD6 := Lib.hid (HRD5.out.up hb6)
  have hz6 := hb6.size
  have B6 := Lib.hid (B5'.out.trans (hb6.mono (by omega)))
  clear f2 f3 q0 s1 s2 hSL d1 d2 d2' d3 d3' HTK CSS hb6 HG5 HRB5 HK5 HK7 HRD5 B5' HR35
  have f3 : w6.cell? ⟨w.heap.size, 3, none⟩ = some (.int .i64 (t : Int)) := HG6.out.cell 3
  have f4 : w6.cell? ⟨w.heap.size, 4, none⟩ = some (.int .i64 k) := HG6.out.cell 4
  have f5 : w6.cell? ⟨w.heap.size, 5, none⟩ = some (.int .i64 (b : Int)) := HG6.out.cell 5
  have f6 : w6.cell? ⟨w.heap.size, 6, none⟩ = some (.string s) := HG6.out.cell 6
  have q0 : w.heap.size < w6.heap.size := HG6.out.lt
  have s1 : w6.cell? ⟨bs, 1, none⟩ = some (.slice (some ⟨g, 0, none⟩) nb cb) := HK6.out.cell 1
  have s2 := HK6.out.lt
  obtain ⟨x, hx⟩ := get_of_lt hts
  obtain ⟨g', o', hA', _, c0, c1, c2⟩ := has_rdW8 HRB6.out t x hx
  injection hA' with hA'; injection hA' with e1 e2
  subst e1 e2
  simp only [Nat.zero_add] at c0 c1 c2
  have y0 := HRB6.out.free (t * 3)
  have y1 := HRB6.out.free (t * 3 + 1)
  have y2 := HRB6.out.free (t * 3 + 2)
  have y3 := HRB6.out.lt
  have jn : (t : Int) < (nb : Int) := by omega
  clear hx
  go_upto_region 11 with (fail)
  clear c0 c1 c2 y0 y1 y2 y3 f3 f4 f5 f6 q0 s1 s2 jn
  have G8 : Has (((w6.setCell ⟨g, t * 3, none⟩ (.int .i64 k)).setCell ⟨g, t * 3 + 1, none⟩ (.int .i64 (b : Int))).setCell ⟨g, t * 3 + 2, none⟩ (.string s)) g 26 (wksCells (ws.set t ⟨k, (b : Int), s⟩) ++ rest) := by
    have := ((HRB6.out.set (t * 3) (.int .i64 k)).set (t * 3 + 1) (.int .i64 (b : Int))).set (t * 3 + 2) (.string s)
    rw [wks_set8 ws rest ⟨k, (b : Int), s⟩ t hts] at this
    exact this
  have hne : bs ≠ g := by omega
  have hnm : bm ≠ g := by omega
  have K8 : Has (((w6.setCell ⟨g, t * 3, none⟩ (.int .i64 k)).setCell ⟨g, t * 3 + 1, none⟩ (.int .i64 (b : Int))).setCell ⟨g, t * 3 + 2, none⟩ (.string s)) bs 24 [.int .i64 q2, .slice (some ⟨g, 0, none⟩) nb cb] := ((HK6.out.far hne _ _).far hne _ _).far hne _ _
  have M8 : Has (((w6.setCell ⟨g, t * 3, none⟩ (.int .i64 k)).setCell ⟨g, t * 3 + 1, none⟩ (.int .i64 (b : Int))).setCell ⟨g, t * 3 + 2, none⟩ (.string s)) bm 24 [.int .i64 q2, .slice D nd cd] := ((HM6.out.far hnm _ _).far hnm _ _).far hnm _ _
  have B8 : Below w.heap.size w (((w6.setCell ⟨g, t * 3, none⟩ (.int .i64 k)).setCell ⟨g, t * 3 + 1, none⟩ (.int .i64 (b : Int))).setCell ⟨g, t * 3 + 2, none⟩ (.string s)) := ((B6.out.setCell (p := ⟨g, t * 3, none⟩) (by show _ ≤ g; omega) _).setCell (p := ⟨g, t * 3 + 1, none⟩) (by show _ ≤ g; omega) _).setCell (p := ⟨g, t * 3 + 2, none⟩) (by show _ ≤ g; omega) _
  have P8 : ∀ r, r ≠ g → (((w6.setCell ⟨g, t * 3, none⟩ (.int .i64 k)).setCell ⟨g, t * 3 + 1, none⟩ (.int .i64 (b : Int))).setCell ⟨g, t * 3 + 2, none⟩ (.string s)).heap[r]? = w6.heap[r]? := fun r hr => (Below.heap_setCell _ ⟨g, t * 3 + 2, none⟩ _ r hr).trans ((Below.heap_setCell _ ⟨g, t * 3 + 1, none⟩ _ r hr).trans (Below.heap_setCell _ ⟨g, t * 3, none⟩ _ r hr))
  have hz8 : w6.heap.size ≤ (((w6.setCell ⟨g, t * 3, none⟩ (.int .i64 k)).setCell ⟨g, t * 3 + 1, none⟩ (.int .i64 (b : Int))).setCell ⟨g, t * 3 + 2, none⟩ (.string s)).heap.size := by simp [World.setCell]
  generalize (((w6.setCell ⟨g, t * 3, none⟩ (.int .i64 k)).setCell ⟨g, t * 3 + 1, none⟩ (.int .i64 (b : Int))).setCell ⟨g, t * 3 + 2, none⟩ (.string s)) = w8 at *
  have RD8 : RdW w8 w8.heap.size D (wksOf OUT) := fun j y hy => by
    obtain ⟨b', o', h1, h2, h3, h4, h5⟩ := HRD6.out j y hy
    have hne' : b' ≠ g := HDG.out b' o' h1
    have ee : ∀ i, w8.cell? ⟨b', i, none⟩ = w6.cell? ⟨b', i, none⟩ := fun i => World.cell?_of_block (P8 b' hne')
    exact ⟨b', o', h1, by omega, (ee _).trans h3, (ee _).trans h4, (ee _).trans h5⟩
  have RR8 : RdW w8 w8.heap.size (some ⟨g, 0, none⟩) (ws.set t ⟨k, (b : Int), s⟩) := has_rdW8 G8
  have HRD8 := Lib.hid RD8
  have HRR8 := Lib.hid RR8
  have HB8 := Lib.hid B8
  have HK8 := Lib.hid K8
  have m0 := M8.cell 0
  have m1 := M8.cell 1
  have m2 := M8.lt
  clear RD8 RR8 B8 K8 M8 P8 G8 HRB6 HK6 HM6 HRD6 B6 HG6
  have CN1 := Lib.hid (Net28 q2 D nd cd (wksOf OUT) w8 (by omega) hnd HRD8.out HLD.out (fun y hy => by have := HOKM.out.short y hy; omega) HOKM.out.zero)
  go_wp2_with fail
  refine CN1.out.mono ?_
  rintro e w9 ⟨A9, n9, c9, rfl, r9, l9, hn9, hc9, hb9⟩
  have HR9 := Lib.hid r9
  have HL9 := Lib.hid l9
  have HB9 := Lib.hid (bvia' HB8.out (by have := HB8.out.size; omega) hb9)
  have HRR9 := Lib.hid (HRR8.out.up hb9)
  have HK9 := Lib.hid (HK8.out.below hb9 HK8.out.lt)
  clear CN1 r9 l9 hb9 m0 m1 m2 HRR8 HK8 HRD8
  go_upto_region 12 with (fail)
  have Q0 : Has (w9.alloc (.cells #[.int .i64 q2, .slice A9 n9 c9] 24)) w9.heap.size 24 [.int .i64 q2, .slice A9 n9 c9] := Has.new rfl
  have B10 : Below w9.heap.size w9 (w9.alloc (.cells #[.int .i64 q2, .slice A9 n9 c9] 24)) := by go_grown
  have HRR10 := Lib.hid (HRR9.out.up B10)
  have HK10 := Lib.hid (HK9.out.below B10 HK9.out.lt)
  have HR10 := Lib.hid (HR9.out.up B10)
  have HB10 := Lib.hid (bvia HB9.out B10)
  clear B10 HRR9 HK9 HR9 HB9
  generalize hw10 : (w9.alloc (.cells #[.int .i64 q2, .slice A9 n9 c9] 24)) = w10 at *
  obtain ⟨b10, hb10⟩ : ∃ z, z = w9.heap.size := ⟨_, rfl⟩
  simp only [← hb10]
  rw [← hb10] at Q0
  have HQ0 := Lib.hid Q0
  clear hw10 hb10 Q0
  have s0 := HK10.out.cell 0
  have s1 := HK10.out.cell 1
  have s2 := HK10.out.lt
  have CN2 := Lib.hid (Net28 q2 (some ⟨g, 0, none⟩) nb cb (ws.set t ⟨k, (b : Int), s⟩) w10 (by omega) hcb.1 HRR10.out (by rw [List.length_set]; exact HLB.out) (fun y hy => by have := HOKR.out.short y hy; omega) HOKR.out.zero)
  go_wp2_with fail
  refine CN2.out.mono ?_
  rintro e w11 ⟨A11, n11, c11, rfl, r11, l11, hn11, hc11, hb11⟩
  have HR11 := Lib.hid r11
  have HL11 := Lib.hid l11
  have HB11 := Lib.hid (bvia HB10.out hb11)
  have HR10b := Lib.hid (HR10.out.up hb11)
  have HQ11 := Lib.hid (HQ0.out.below hb11 HQ0.out.lt)
  clear CN2 r11 l11 hb11 s0 s1 s2 HRR10 HK10 HR10 HB10 HQ0
  go_upto_region 13 with (fail)
  have Q1 : Has (w11.alloc (.cells #[.int .i64 q2, .slice A11 n11 c11] 24)) w11.heap.size 24 [.int .i64 q2, .slice A11 n11 c11] := Has.new rfl
  have B12 : Below w11.heap.size w11 (w11.alloc (.cells #[.int .i64 q2, .slice A11 n11 c11] 24)) := by go_grown
  have Q2 := HQ11.out.below B12 HQ11.out.lt
  have HRA := HR10b.out.up B12
  have HRC := HR11.out.up B12
  have HB12 := Lib.hid (bvia HB11.out B12)
  have u0 := Q1.cell 0
  have u1 := Q1.cell 1
  have u2 := Q1.lt
  have v0 := Q2.cell 0
  have v1 := Q2.cell 1
  have v2 := Q2.lt
  have CSM := Lib.hid (same05 q2 A9 A11 n9 n11 c9 c11 (netL (wksOf OUT)) (netL (ws.set t ⟨k, (b : Int), s⟩)) _ HRA HRC HL9.out HL11.out HOKM.out.net HOKR.out.net HNA.out)
  clear Q1 Q2 B12 HRA HRC HR10b HR11 HQ11 HB11
  go_wp2_with fail
  refine CSM.out.mono ?_
  rintro e w13 ⟨rfl, hb13⟩
  clear CSM u0 u1 u2 v0 v1 v2
  go_wp2_with fail
  refine (AWK.out _).mono ?_
  rintro e w14 ⟨rfl, hb14⟩
  go_wp2
  go_ret
  exact ⟨rfl, bvia (bvia HB12.out hb13) hb14⟩
end Go.Proofs.Ytnjenggijmbhcaa
