/-
  Contract of undo.Mend.
-/
import Derived.Test.YtnjenggijmbhcaaVK35
import Derived.Test.YtnjenggijmbhcaaVR1
import Derived.Test.YtnjenggijmbhcaaVR2
import Derived.Test.YtnjenggijmbhcaaVR5
namespace Go.Proofs.Ytnjenggijmbhcaa
open Go.RowKit
def mdE (p span : Int) (l : List Wk) (at_ : Int) (x : Wk) : Int :=
  if sheetE p span l ≠ 0 then sheetE p span l else if plE p span (wksOf l) at_ x ≠ 0 then plE p span (wksOf l) at_ x
  else if 1000 < (mdOut p span l at_ x).length ∨ 400 < (wksOf (mdOut p span l at_ x)).length then 3 else 0
def mdL (p span : Int) (l : List Wk) (at_ : Int) (x : Wk) : List Wk := if mdE p span l at_ x = 0 then mdOut p span l at_ x else []
theorem mdE_1 {p span : Int} {l : List Wk} {at_ : Int} {x : Wk} (h : sheetE p span l ≠ 0) : mdE p span l at_ x = sheetE p span l := if_pos h
theorem mdE_2 {p span : Int} {l : List Wk} {at_ : Int} {x : Wk} (h : sheetE p span l = 0) (h2 : plE p span (wksOf l) at_ x ≠ 0) : mdE p span l at_ x = plE p span (wksOf l) at_ x := by
  unfold mdE; rw [if_neg (by rw [h]; simp), if_pos h2]
theorem mdE_3 {p span : Int} {l : List Wk} {at_ : Int} {x : Wk} (h : sheetE p span l = 0) (h2 : plE p span (wksOf l) at_ x = 0) (h3 : 1000 < (mdOut p span l at_ x).length ∨ 400 < (wksOf (mdOut p span l at_ x)).length) : mdE p span l at_ x = 3 := by
  unfold mdE; rw [if_neg (by rw [h]; simp), if_neg (by rw [h2]; simp), if_pos h3]
theorem mdE_0 {p span : Int} {l : List Wk} {at_ : Int} {x : Wk} (h : sheetE p span l = 0) (h2 : plE p span (wksOf l) at_ x = 0) (h3 : ¬ (1000 < (mdOut p span l at_ x).length ∨ 400 < (wksOf (mdOut p span l at_ x)).length)) : mdE p span l at_ x = 0 := by
  unfold mdE; rw [if_neg (by rw [h]; simp), if_neg (by rw [h2]; simp), if_neg h3]
theorem mdE_zero {p span : Int} {l : List Wk} {at_ : Int} {x : Wk} (h : mdE p span l at_ x = 0) : sheetE p span l = 0 ∧ plE p span (wksOf l) at_ x = 0 ∧ (mdOut p span l at_ x).length ≤ 1000 ∧ (wksOf (mdOut p span l at_ x)).length ≤ 400 := by
  unfold mdE at h
  by_cases c1 : sheetE p span l ≠ 0
  · rw [if_pos c1] at h; exact absurd h c1
  rw [if_neg c1] at h
  by_cases c2 : plE p span (wksOf l) at_ x ≠ 0
  · rw [if_pos c2] at h; exact absurd h c2
  rw [if_neg c2] at h
  by_cases c3 : 1000 < (mdOut p span l at_ x).length ∨ 400 < (wksOf (mdOut p span l at_ x)).length
  · rw [if_pos c3] at h; cases h
  · exact ⟨by omega, by omega, by omega, by omega⟩
set_option maxRecDepth 100000 in
set_option maxHeartbeats 4000000 in
theorem unMend (p span at_ k a : Int) (s : ByteArray) (A : Option Addr) (n c : Nat) (l : List Wk) (w : World) (hn : n ≤ c) (hc : c ≤ 9223372036854775807) (hw : RdW w w.heap.size A l) (hl : l.length = n)
    (hs : ∀ x ∈ l, x.word.size ≤ 9223372036854775807) (hs2 : s.size ≤ 9223372036854775807) :
    Calls Try.prog 33 #[.int .i64 p, .int .i64 span, .slice A n c, .int .i64 at_, .agg #[.int .i64 k, .int .i64 a, .string s]] w (RetQE (mdL p span l at_ ⟨k, a, s⟩) (mdE p span l at_ ⟨k, a, s⟩) w) := by
  have HW := Lib.hid hw; clear hw
  have HL := Lib.hid hl; clear hl
  have HS := Lib.hid hs; clear hs
  obtain ⟨OUT, hOUT⟩ : ∃ l', l' = mdL p span l at_ ⟨k, a, s⟩ := ⟨_, rfl⟩
  obtain ⟨ER, hER⟩ : ∃ e', e' = mdE p span l at_ ⟨k, a, s⟩ := ⟨_, rfl⟩
  rw [← hOUT, ← hER]
  have HOUT := Lib.hid hOUT
  have HER := Lib.hid hER
  clear hOUT hER
  have HNIL : Hid (ER ≠ 0 → OUT = []) := fun h => by rw [HOUT.out]; unfold mdL; rw [if_neg (by rw [← HER.out]; exact h)]
  have G0 : Has (w.alloc (.cells #[.int .i64 k, .int .i64 a, .string s] 26)) w.heap.size 26 [.int .i64 k, .int .i64 a, .string s] := Has.new rfl
  have B0 : Below w.heap.size w (w.alloc (.cells #[.int .i64 k, .int .i64 a, .string s] 26)) := by go_grown
  have CS := csheet2 p span A n c l _ (by omega) (HW.out.up B0) HL.out HS.out
  rw [cs_eq] at CS
  have HCS := Lib.hid CS
  clear CS
  go_enter Try.func33, Try.ntmps33
  go_upto_region 1 with (fail)
  have hz0 : (w.alloc (.cells #[.int .i64 k, .int .i64 a, .string s] 26)).heap.size = w.heap.size + 1 := by simp
  have HG0 := Lib.hid G0
  have HB0 := Lib.hid B0
  clear G0 B0
  generalize (w.alloc (.cells #[.int .i64 k, .int .i64 a, .string s] 26)) = w0 at *
  go_wp2_with fail
  refine HCS.out.mono ?_
  rintro e w1 ⟨q, B, nb, cb, bad, rfl, hb1, hok⟩
  have B1 := Lib.hid (HB0.out.trans (hb1.mono (by omega)))
  have HG1 := Lib.hid (HG0.out.below hb1 HG0.out.lt)
  have HOK := Lib.hid hok
  clear HCS hok hb1 HG0 HB0
  by_cases hE : sheetE p span l = 0
  case neg =>
    have hne : (sheetE p span l != 0) = true := by simpa using hE
    have HE1 : Hid (ER = sheetE p span l) := by show _ = _; rw [HER.out]; exact mdE_1 hE
    have HO1 : Hid (OUT = []) := HNIL.out (by rw [HE1.out]; exact hE)
    clear hE
    generalize sheetE p span l = er at *
    go_wp2
    go_ret2
    exact ⟨none, 0, 0, by rw [HE1.out]; rfl, by rw [HO1.out]; exact RdW.nil _ _ _, by rw [HO1.out]; rfl, Nat.le_refl _, by omega, B1.out.trans ((Below.refl _ _).alloc (by have := B1.out.size; omega) _)⟩
  rw [hE]
  obtain ⟨rfl, rb, lb, hnb, hcb⟩ := HOK.out hE
  have OKS := sheet_ok hE
  obtain ⟨ws, hws⟩ : ∃ ws, ws = wksOf l := ⟨_, rfl⟩
  have HWS := Lib.hid hws
  rw [← hws] at rb lb OKS
  have HE := Lib.hid hE
  clear hE HOK hws
  have HSP : Hid (spB q span = true) := (sheetE_zero HE.out).2.2.1
  go_upto_region 2 with (fail)
  have K0 : Has (w1.alloc (.cells #[.int .i64 q, .slice B nb cb] 24)) w1.heap.size 24 [.int .i64 q, .slice B nb cb] := Has.new rfl
  have B2 : Below w1.heap.size w1 (w1.alloc (.cells #[.int .i64 q, .slice B nb cb] 24)) := by go_grown
  have RB := Lib.hid (rb.up B2)
  have HOKS := Lib.hid OKS
  have HLB := Lib.hid lb
  have hn4 : nb ≤ 400 := by have := OKS.len; omega
  have HG2 := Lib.hid (HG1.out.below B2 HG1.out.lt)
  have B2' := Lib.hid (B1.out.trans (B2.mono B1.out.size))
  clear rb lb OKS B2 HG1
  generalize hw2 : (w1.alloc (.cells #[.int .i64 q, .slice B nb cb] 24)) = w2 at *
  obtain ⟨bs, hbs⟩ : ∃ bs, bs = w1.heap.size := ⟨_, rfl⟩
  simp only [← hbs]
  rw [← hbs] at K0
  clear hw2 hbs B1
  have s0 : w2.cell? ⟨bs, 0, none⟩ = some (.int .i64 q) := K0.cell 0
  have s1 : w2.cell? ⟨bs, 1, none⟩ = some (.slice B nb cb) := K0.cell 1
  have s2 : bs < w2.heap.size := K0.lt
  have HK2 := Lib.hid K0
  clear K0
  have f4 : w2.cell? ⟨w.heap.size, 0, none⟩ = some (.int .i64 k) := HG2.out.cell 0
  have f5 : w2.cell? ⟨w.heap.size, 1, none⟩ = some (.int .i64 a) := HG2.out.cell 1
  have f6 : w2.cell? ⟨w.heap.size, 2, none⟩ = some (.string s) := HG2.out.cell 2
  have q0 : w.heap.size < w2.heap.size := HG2.out.lt
  have HS3 : Hid (∀ x ∈ ws, x.word.size ≤ 9223372036854775807) := fun x hx => by have := HOKS.out.short x hx; omega
  have CK := Lib.hid (unCheck q at_ k a s B nb cb bs ws w2 (by omega) RB.out HLB.out HS3.out hs2 s2 s0 s1)
  go_wp2_with fail
  refine CK.out.mono ?_
  rintro e w3 ⟨rfl, hb3⟩
  have B3 := Lib.hid (B2'.out.trans (hb3.mono B2'.out.size))
  have HG3 := Lib.hid (HG2.out.below hb3 HG2.out.lt)
  have HK3 := Lib.hid (HK2.out.below hb3 HK2.out.lt)
  have RB3 := Lib.hid (RB.out.up hb3)
  clear CK hb3 f4 f5 f6 q0 s0 s1 s2 HG2 HK2 RB B2'
  by_cases hA : askE q ws at_ ⟨k, a, s⟩ = 0
  case neg =>
    have hne : (askE q ws at_ ⟨k, a, s⟩ != 0) = true := by simpa using hA
    have hpe : plE q span ws at_ ⟨k, a, s⟩ = askE q ws at_ ⟨k, a, s⟩ := plE_err hA
    have HE1 : Hid (ER = askE q ws at_ ⟨k, a, s⟩) := by
      show _ = _
      rw [HER.out, mdE_2 HE.out (by rw [← HWS.out, hpe]; exact hA), ← HWS.out, hpe]
    have HO1 : Hid (OUT = []) := HNIL.out (by rw [HE1.out]; exact hA)
    clear hA hpe
    generalize askE q ws at_ ⟨k, a, s⟩ = er at *
    go_wp2
    go_ret2
    exact ⟨none, 0, 0, by rw [HE1.out]; rfl, by rw [HO1.out]; exact RdW.nil _ _ _, by rw [HO1.out]; rfl, Nat.le_refl _, by omega, B3.out⟩
  rw [hA]
  obtain ⟨z1, z2, z3, z4⟩ := askE_zero hA
  have V2 := schk_zero z4
  have b1 := valid_at V2 ⟨k, a, s⟩ (by simp)
  rw [HLB.out] at z3
  obtain ⟨t, rfl⟩ := Int.eq_ofNat_of_zero_le z2
  obtain ⟨b, rfl⟩ := Int.eq_ofNat_of_zero_le b1.1
  have htn : t < nb := by omega
  have hpe : plE q span ws (t : Int) ⟨k, (b : Int), s⟩ = 0 := (plE_ok hA).trans (if_pos HSP.out)
  have hpl : plL ws (t : Int) ⟨k, (b : Int), s⟩ = abU ws t b nb := by unfold plL; rw [HLB.out, Int.toNat_natCast]
  have CP := planC bs t nb cb b q span k s B ws w3 HK3.out RB3.out HLB.out hnb hcb HOKS.out V2 htn
  rw [if_pos HSP.out] at CP
  have hU : quickP q.toNat span.toNat (planU ws (abU ws t b nb)) = plU q span ws (t : Int) ⟨k, (b : Int), s⟩ := by unfold plU; rw [if_pos hpe, hpl]
  have hR : quickP q.toNat span.toNat (planR ⟨k, (b : Int), s⟩ ws (abU ws t b nb)) = plR q span ws (t : Int) ⟨k, (b : Int), s⟩ := by unfold plR; rw [if_pos hpe, hpl]
  rw [hU, hR] at CP
  have HLE := Lib.hid (plan_les hpe)
  have HLN := Lib.hid (plan_lens hpe)
  have HLP : Hid (0 < (plL ws (t : Int) ⟨k, (b : Int), s⟩).length) := abU_pos _ _ _ _
  obtain ⟨U, hU2⟩ : ∃ U, U = plU q span ws (t : Int) ⟨k, (b : Int), s⟩ := ⟨_, rfl⟩
  obtain ⟨R, hR2⟩ : ∃ R, R = plR q span ws (t : Int) ⟨k, (b : Int), s⟩ := ⟨_, rfl⟩
  have HMD : Hid (mdOut q span l (t : Int) ⟨k, (b : Int), s⟩ = l ++ (U ++ R)) := by show _ = _; unfold mdOut; rw [← HWS.out, hU2, hR2]
  rw [← hU2, ← hR2] at CP HLE HLN
  have HPE : Hid (plE q span (wksOf l) (t : Int) ⟨k, (b : Int), s⟩ = 0) := by show _ = _; rw [← HWS.out]; exact hpe
  have HCP := Lib.hid CP
  have hl1000 : n ≤ 1000 := by have := (sheetE_zero HE.out).2.2.2.1; rw [HL.out] at this; exact this
  have f4 : w3.cell? ⟨w.heap.size, 0, none⟩ = some (.int .i64 k) := HG3.out.cell 0
  have f5 : w3.cell? ⟨w.heap.size, 1, none⟩ = some (.int .i64 (b : Int)) := HG3.out.cell 1
  have f6 : w3.cell? ⟨w.heap.size, 2, none⟩ = some (.string s) := HG3.out.cell 2
  have q0 : w.heap.size < w3.heap.size := HG3.out.lt
  clear hA z1 z2 z3 z4 b1 V2 hpe hpl CP hU hR hU2 hR2
  go_wp2_with fail
  refine HCP.out.mono ?_
  rintro e w4 ⟨A1, n1, c1, A2, n2, c2, rfl, ru, lu, mu, ou, rr, lr, mr, or_, hb4⟩
  have B4 := Lib.hid (B3.out.trans (hb4.mono B3.out.size))
  have HA4 := Lib.hid (HW.out.up B4.out)
  have RU := Lib.hid ru
  have RR := Lib.hid rr
  have hlu : n1 ≤ 800 := by have := HLE.out.1; omega
  have hlr : n2 ≤ 800 := by have := HLE.out.2; omega
  have hlp : 0 < n1 := by have := HLN.out.1; have := HLP.out; omega
  have HLU := Lib.hid lu
  have HLR := Lib.hid lr
  clear HCP hb4 ru rr lu lr f4 f5 f6 q0 HG3 HK3 RB3 B3
  have GN : Has (w4.alloc (.cells #[.slice A n c, .slice A1 n1 c1, .slice A2 n2 c2] 47)) w4.heap.size 47 [.slice A n c, .slice A1 n1 c1, .slice A2 n2 c2] := Has.new rfl
  have BN : Below w4.heap.size w4 (w4.alloc (.cells #[.slice A n c, .slice A1 n1 c1, .slice A2 n2 c2] 47)) := by go_grown
  have hflat : [l, U, R].flatten = l ++ (U ++ R) := by simp
  have CC := concatSt w4.heap.size 3 3 [l, U, R] (w4.alloc (.cells #[.slice A n c, .slice A1 n1 c1, .slice A2 n2 c2] 47)) GN.lt (by decide) rfl (fun j x hx => by
    match j, hx with
    | 0, hx => injection hx with hx; subst hx; exact ⟨A, c, (GN.cell 0).trans (by rw [HL.out]; rfl), HA4.out.up BN⟩
    | 1, hx => injection hx with hx; subst hx; exact ⟨A1, c1, (GN.cell 1).trans (by rw [HLU.out]; rfl), RU.out.up BN⟩
    | 2, hx => injection hx with hx; subst hx; exact ⟨A2, c2, (GN.cell 2).trans (by rw [HLR.out]; rfl), RR.out.up BN⟩) (by rw [hflat, List.length_append, List.length_append, HLU.out]; omega) (by rw [hflat, List.length_append, List.length_append, HLU.out, HLR.out, HL.out]; omega)
  rw [hflat] at CC
  have HCC := Lib.hid CC
  have HBN := Lib.hid BN
  clear CC GN BN hflat
  go_wp2_with fail
  refine HCC.out.mono ?_
  rintro e w5 ⟨A5, n5, c5, rfl, ho5, hl5, hb5⟩
  have B5 := Lib.hid (bvia B4.out (bvia HBN.out hb5))
  have R5 := own_rdW ho5
  have hc5 := own_caps ho5
  have hn5 : n5 ≤ 2600 := by rw [List.length_append, List.length_append, HLU.out, HLR.out, HL.out] at hl5; omega
  have CR := Lib.hid (reachesC A5 n5 c5 (l ++ (U ++ R)) w5 (by omega) R5 hl5)
  have hrw := reach_wks (l ++ (U ++ R))
  rw [hl5] at hrw
  obtain ⟨rn, hrn⟩ : ∃ r, r = reachN (l ++ (U ++ R)) := ⟨_, rfl⟩
  rw [← hrn] at CR hrw
  obtain ⟨wn, hwn⟩ : ∃ r, r = (wksOf (l ++ (U ++ R))).length := ⟨_, rfl⟩
  rw [← hwn] at hrw
  have i1 : IntKind.i64.wrap ((n5 : Int) - (rn : Int)) = (wn : Int) := by rw [IntWalk.i64_in _ (by omega)]; omega
  have HWN := Lib.hid hwn
  have HR5 := Lib.hid R5
  have HL5 := Lib.hid hl5
  have E3 := Lib.hid (fun h => mdE_3 (p := q) (span := span) (l := l) (at_ := (t : Int)) (x := ⟨k, (b : Int), s⟩) HE.out HPE.out h)
  have E0 := Lib.hid (fun h => mdE_0 (p := q) (span := span) (l := l) (at_ := (t : Int)) (x := ⟨k, (b : Int), s⟩) HE.out HPE.out h)
  rw [HMD.out, HL5.out, ← HWN.out, ← HER.out] at E3 E0
  clear HCC ho5 hl5 hb5 R5 hrw hrn hwn HBN
  by_cases h1 : 1000 < n5
  · have h1' : (1000 : Int) < (n5 : Int) := by omega
    have HE1 : Hid (ER = 3) := E3.out (.inl h1)
    have HO1 : Hid (OUT = []) := HNIL.out (by rw [HE1.out]; decide)
    go_wp2
    go_ret2
    exact ⟨none, 0, 0, by rw [HE1.out]; rfl, by rw [HO1.out]; exact RdW.nil _ _ _, by rw [HO1.out]; rfl, Nat.le_refl _, by omega, B5.out⟩
  have h1' : ¬ (1000 : Int) < (n5 : Int) := by omega
  have h1d : decide ((1000 : Int) < (n5 : Int)) = false := decide_eq_false h1'
  have h1n : decide (1000 < n5) = false := decide_eq_false h1
  by_cases h2 : 400 < wn
  · have h2' : (400 : Int) < (wn : Int) := by omega
    have HE1 : Hid (ER = 3) := E3.out (.inr h2)
    have HO1 : Hid (OUT = []) := HNIL.out (by rw [HE1.out]; decide)
    go_wp2_with fail
    refine CR.out.mono ?_
    rintro e w6 ⟨rfl, hb6⟩
    go_wp2
    go_ret2
    exact ⟨none, 0, 0, by rw [HE1.out]; rfl, by rw [HO1.out]; exact RdW.nil _ _ _, by rw [HO1.out]; rfl, Nat.le_refl _, by omega, bvia B5.out hb6⟩
  have h2' : ¬ (400 : Int) < (wn : Int) := by omega
  have h2d : decide ((400 : Int) < (wn : Int)) = false := decide_eq_false h2'
  have h2n : decide (400 < wn) = false := decide_eq_false h2
  have HE1 : Hid (ER = 0) := E0.out (by omega)
  have HO1 : Hid (OUT = l ++ (U ++ R)) := by
    show _ = _
    rw [HOUT.out]
    unfold mdL
    rw [if_pos (by rw [← HER.out]; exact HE1.out), HMD.out]
  clear h1 h2
  go_wp2_with fail
  refine CR.out.mono ?_
  rintro e w6 ⟨rfl, hb6⟩
  go_wp2
  go_ret2
  exact ⟨A5, n5, c5, by rw [HE1.out]; rfl, by rw [HO1.out]; exact HR5.out.up hb6, by rw [HO1.out]; exact HL5.out, hc5.1, hc5.2, bvia B5.out hb6⟩
end Go.Proofs.Ytnjenggijmbhcaa
