/-
  Contract of torchonref28.Mend.
-/
import Derived.Test.YtnjenggijmbhcaaVK11
import Derived.Test.YtnjenggijmbhcaaVR6
import Derived.Test.YtnjenggijmbhcaaVP5
namespace Go.Proofs.Ytnjenggijmbhcaa
open Go.RowKit
set_option maxRecDepth 100000 in
set_option maxHeartbeats 4000000 in
theorem mend28 (p span at_ k a : Int) (s : ByteArray) (A : Option Addr) (n c : Nat) (l : List Wk) (w : World) (hn : n ≤ c) (hc : c ≤ 9223372036854775807) (hw : RdW w w.heap.size A l) (hl : l.length = n)
    (hs : ∀ x ∈ l, x.word.size ≤ 9223372036854775807) (hs2 : s.size ≤ 9223372036854775807) :
    Calls Try.prog 35 #[.int .i64 p, .int .i64 span, .slice A n c, .int .i64 at_, .agg #[.int .i64 k, .int .i64 a, .string s]] w (RetQE (mdL p span l at_ ⟨k, a, s⟩) (mdE p span l at_ ⟨k, a, s⟩) w) := by
  have HW := Lib.hid hw; clear hw
  have HL := Lib.hid hl; clear hl
  have HS := Lib.hid hs; clear hs
  obtain ⟨OUT, hOUT⟩ : ∃ l', l' = mdL p span l at_ ⟨k, a, s⟩ := ⟨_, rfl⟩
  obtain ⟨ER, hER⟩ : ∃ e', e' = mdE p span l at_ ⟨k, a, s⟩ := ⟨_, rfl⟩
  rw [← hOUT, ← hER]
  have HOUT := Lib.hid hOUT
  have HER := Lib.hid hER
  clear hOUT hER
  have HNIL : Hid (ER ≠ 0 → OUT = []) := fun h => by rw [HOUT.out]; unfold mdL; rw [if_neg (by rw [← HER.out]; exact h)]
  have G0 : Has (w.alloc (.cells #[.int .i64 k, .int .i64 a, .string s] 26)) w.heap.size 26 [.int .i64 k, .int .i64 a, .string s] := Has.new rfl
  have B0 : Below w.heap.size w (w.alloc (.cells #[.int .i64 k, .int .i64 a, .string s] 26)) := by go_grown
  have HCS := Lib.hid (sheet15 p span A n c l _ (by omega) (HW.out.up B0) HL.out HS.out)
  go_enter Try.func35, Try.ntmps35
  go_upto_region 1 with (fail)
  have hz0 : w.heap.size + 1 ≤ (w.alloc (.cells #[.int .i64 k, .int .i64 a, .string s] 26)).heap.size := by simp
  have HG0 := Lib.hid G0
  have HB0 := Lib.hid B0
  clear G0 B0
  generalize (w.alloc (.cells #[.int .i64 k, .int .i64 a, .string s] 26)) = w0 at *
  go_wp2_with fail
  refine HCS.out.mono ?_
  rintro e w1 ⟨q, B, nb, cb, bad, rfl, hb1, hok⟩
  have B1 := Lib.hid (HB0.out.trans (hb1.mono (by omega)))
  have HG1 := Lib.hid (HG0.out.below hb1 HG0.out.lt)
  have HOK := Lib.hid hok
  clear HCS hok hb1 HG0 HB0
  by_cases hE : sheetE p span l = 0
  case neg =>
    have hne : (sheetE p span l != 0) = true := by simpa using hE
    have HE1 : Hid (ER = sheetE p span l) := by show _ = _; rw [HER.out]; exact mdE_1 hE
    have HO1 : Hid (OUT = []) := HNIL.out (by rw [HE1.out]; exact hE)
    clear hE
    generalize sheetE p span l = er at *
    go_wp2
    go_ret2
    exact ⟨none, 0, 0, by rw [HE1.out]; rfl, by rw [HO1.out]; exact RdW.nil _ _ _, by rw [HO1.out]; rfl, Nat.le_refl _, by omega, B1.out.trans ((Below.refl _ _).alloc (by have := B1.out.size; omega) _)⟩
  rw [hE]
  obtain ⟨rfl, rb, lb, hnb, hcb⟩ := HOK.out hE
  have OKS := sheet_ok hE
  obtain ⟨ws, hws⟩ : ∃ ws, ws = wksOf l := ⟨_, rfl⟩
  have HWS := Lib.hid hws
  rw [← hws] at rb lb OKS
  have HE := Lib.hid hE
  clear hE HOK hws
  go_upto_region 2 with (fail)
  have K0 : Has (w1.alloc (.cells #[.int .i64 q, .slice B nb cb] 24)) w1.heap.size 24 [.int .i64 q, .slice B nb cb] := Has.new rfl
  have B2 : Below w1.heap.size w1 (w1.alloc (.cells #[.int .i64 q, .slice B nb cb] 24)) := by go_grown
  have RB := Lib.hid (rb.up B2)
  have HOKS := Lib.hid OKS
  have HLB := Lib.hid lb
  have hn4 : nb ≤ 400 := by have := OKS.len; omega
  have HG2 := Lib.hid (HG1.out.below B2 HG1.out.lt)
  have B2' := Lib.hid (B1.out.trans (B2.mono B1.out.size))
  clear rb lb OKS B2 HG1
  generalize hw2 : (w1.alloc (.cells #[.int .i64 q, .slice B nb cb] 24)) = w2 at *
  obtain ⟨bs, hbs⟩ : ∃ bs, bs = w1.heap.size := ⟨_, rfl⟩
  simp only [← hbs]
  rw [← hbs] at K0
  clear hw2 hbs B1
  have s0 : w2.cell? ⟨bs, 0, none⟩ = some (.int .i64 q) := K0.cell 0
  have s1 : w2.cell? ⟨bs, 1, none⟩ = some (.slice B nb cb) := K0.cell 1
  have s2 : bs < w2.heap.size := K0.lt
  have f4 : w2.cell? ⟨w.heap.size, 0, none⟩ = some (.int .i64 k) := HG2.out.cell 0
  have f5 : w2.cell? ⟨w.heap.size, 1, none⟩ = some (.int .i64 a) := HG2.out.cell 1
  have f6 : w2.cell? ⟨w.heap.size, 2, none⟩ = some (.string s) := HG2.out.cell 2
  have q0 : w.heap.size < w2.heap.size := HG2.out.lt
  have HS3 : Hid (∀ x ∈ ws, x.word.size ≤ 9223372036854775807) := fun x hx => by have := HOKS.out.short x hx; omega
  have CK := Lib.hid (plan28 q span at_ k a s B nb cb ws w2 (by omega) RB.out HLB.out HS3.out hs2)
  obtain ⟨PE, hPE⟩ : ∃ e', e' = plE q span ws at_ ⟨k, a, s⟩ := ⟨_, rfl⟩
  obtain ⟨U, hU⟩ : ∃ e', e' = plU q span ws at_ ⟨k, a, s⟩ := ⟨_, rfl⟩
  obtain ⟨R, hR⟩ : ∃ e', e' = plR q span ws at_ ⟨k, a, s⟩ := ⟨_, rfl⟩
  rw [← hPE, ← hU, ← hR] at CK
  have HPE := Lib.hid hPE
  have HMD : Hid (mdOut q span l at_ ⟨k, a, s⟩ = l ++ (U ++ R)) := by show _ = _; unfold mdOut; rw [← HWS.out, hU, hR]
  have HLE : Hid (PE = 0 → U.length ≤ 800 ∧ R.length ≤ 800) := fun h => by rw [hPE] at h; rw [hU, hR]; exact plan_les h
  clear hPE hU hR K0
  have hl1000 : n ≤ 1000 := by have := (sheetE_zero HE.out).2.2.2.1; rw [HL.out] at this; exact this
  go_wp2_with fail
  refine CK.out.mono ?_
  rintro e w4 ⟨A1, n1, c1, A2, n2, c2, rfl, ru, lu, mu, ou, rr, lr, mr, or_, hb4⟩
  have B4 := Lib.hid (B2'.out.trans (hb4.mono B2'.out.size))
  have HA4 := Lib.hid (HW.out.up B4.out)
  have RU := Lib.hid ru
  have RR := Lib.hid rr
  have HLU := Lib.hid lu
  have HLR := Lib.hid lr
  clear CK hb4 ru rr lu lr f4 f5 f6 q0 s0 s1 s2 HG2 RB B2'
  by_cases hA : PE = 0
  case neg =>
    have hne : (PE != 0) = true := by simpa using hA
    have HE1 : Hid (ER = PE) := by
      show _ = _
      rw [HER.out, mdE_2 HE.out (by rw [← HWS.out, ← HPE.out]; exact hA), ← HWS.out, ← HPE.out]
    have HO1 : Hid (OUT = []) := HNIL.out (by rw [HE1.out]; exact hA)
    clear hA
    go_wp2
    go_ret2
    exact ⟨none, 0, 0, by rw [HE1.out]; rfl, by rw [HO1.out]; exact RdW.nil _ _ _, by rw [HO1.out]; rfl, Nat.le_refl _, by omega, B4.out⟩
  obtain ⟨hlu, hlr⟩ := HLE.out hA
  rw [HLU.out] at hlu
  rw [HLR.out] at hlr
  have HPZ : Hid (plE q span (wksOf l) at_ ⟨k, a, s⟩ = 0) := by show _ = _; rw [← HWS.out, ← HPE.out]; exact hA
  rw [hA]
  clear hA HPE HLE
  go_upto_region 7 with (fail)
  have hz4 := B4.out.size
  go_upto_region 8 with (first
    | (at_builtin; refine wpList_appSt rfl (.tmp 41) (.tmp 42) rfl w4.heap.size (.slice (some ⟨w4.heap.size, 0, none⟩) 0 0) 0 [] rfl (own_lit0 (Nat.le_refl _)) A n c l rfl (HA4.out.up (by go_grown)) HL.out (by omega) (by simp) ?_; intro A5 c5 w5 ho5 hg5; rw [Nat.zero_add, List.nil_append] at ho5; rw [Nat.zero_add]; have HB5 := Lib.hid (((Below.refl w4.heap.size w4).alloc (Nat.le_refl _) (.cells #[] 64)).grown hg5 (by simp) (fun k hk => by have h := Option.some.inj (show some w4.heap.size = some k from hk); omega)); have HO5 := Lib.hid ho5; clear ho5 hg5)
    | (at_builtin; refine wpList_appSt rfl (.tmp 43) (.tmp 44) rfl w4.heap.size (.slice A5 n c5) n l rfl HO5.out A1 n1 c1 U rfl (RU.out.up HB5.out) HLU.out (by omega) HB5.out.size ?_; intro A6 c6 w6 ho6 hg6; have HB6 := Lib.hid (HB5.out.grown hg6 HB5.out.size (fun k hk => (HO5.out.lt k hk).1)); have HO6 := Lib.hid ho6; clear ho6 hg6)
    | (at_builtin; refine wpList_appSt rfl (.tmp 45) (.tmp 46) rfl w4.heap.size (.slice A6 (n + n1) c6) (n + n1) (l ++ U) rfl HO6.out A2 n2 c2 R rfl (RR.out.up HB6.out) HLR.out (by omega) HB6.out.size ?_; intro A7 c7 w7 ho7 hg7; have HB7 := Lib.hid (HB6.out.grown hg7 HB6.out.size (fun k hk => (HO6.out.lt k hk).1)); have HO7 := Lib.hid ho7; clear ho7 hg7)
    | fail)
  have R5 := own_rdW HO7.out
  rw [List.append_assoc] at R5
  have hc5 := own_caps HO7.out
  obtain ⟨n5, hn5⟩ : ∃ m, m = n + n1 + n2 := ⟨_, rfl⟩
  simp only [← hn5]
  rw [← hn5] at hc5
  have hl5 : (l ++ (U ++ R)).length = n5 := by rw [List.length_append, List.length_append, HLU.out, HLR.out, HL.out]; omega
  have hn5' : n5 ≤ 2600 := by omega
  clear hn5
  have CR := Lib.hid (reaches15 A7 n5 c7 (l ++ (U ++ R)) w7 (by omega) R5 hl5)
  have hrw := reach_wks (l ++ (U ++ R))
  rw [hl5] at hrw
  obtain ⟨rn, hrn⟩ : ∃ r, r = reachN (l ++ (U ++ R)) := ⟨_, rfl⟩
  rw [← hrn] at CR hrw
  obtain ⟨wn, hwn⟩ : ∃ r, r = (wksOf (l ++ (U ++ R))).length := ⟨_, rfl⟩
  rw [← hwn] at hrw
  have i1 : IntKind.i64.wrap ((n5 : Int) - (rn : Int)) = (wn : Int) := by rw [IntWalk.i64_in _ (by omega)]; omega
  have HWN := Lib.hid hwn
  have HR5 := Lib.hid R5
  have HL5 := Lib.hid hl5
  have B7 := Lib.hid (bvia B4.out HB7.out)
  have E3 := Lib.hid (fun h => mdE_3 (p := q) (span := span) (l := l) (at_ := at_) (x := ⟨k, a, s⟩) HE.out HPZ.out h)
  have E0 := Lib.hid (fun h => mdE_0 (p := q) (span := span) (l := l) (at_ := at_) (x := ⟨k, a, s⟩) HE.out HPZ.out h)
  rw [HMD.out, HL5.out, ← HWN.out, ← HER.out] at E3 E0
  clear hl5 R5 hrw hrn hwn
  by_cases h1 : 1000 < n5
  · have h1' : (1000 : Int) < (n5 : Int) := by omega
    have HE1 : Hid (ER = 3) := E3.out (.inl h1)
    have HO1 : Hid (OUT = []) := HNIL.out (by rw [HE1.out]; decide)
    go_wp2
    go_ret2
    exact ⟨none, 0, 0, by rw [HE1.out]; rfl, by rw [HO1.out]; exact RdW.nil _ _ _, by rw [HO1.out]; rfl, Nat.le_refl _, by omega, B7.out⟩
  have h1' : ¬ (1000 : Int) < (n5 : Int) := by omega
  have h1d : decide ((1000 : Int) < (n5 : Int)) = false := decide_eq_false h1'
  have h1n : decide (1000 < n5) = false := decide_eq_false h1
  by_cases h2 : 400 < wn
  · have h2' : (400 : Int) < (wn : Int) := by omega
    have HE1 : Hid (ER = 3) := E3.out (.inr h2)
    have HO1 : Hid (OUT = []) := HNIL.out (by rw [HE1.out]; decide)
    go_wp2_with fail
    refine CR.out.mono ?_
    rintro e w8 ⟨rfl, rfl⟩
    go_wp2
    go_ret2
    exact ⟨none, 0, 0, by rw [HE1.out]; rfl, by rw [HO1.out]; exact RdW.nil _ _ _, by rw [HO1.out]; rfl, Nat.le_refl _, by omega, B7.out⟩
  have h2' : ¬ (400 : Int) < (wn : Int) := by omega
  have h2d : decide ((400 : Int) < (wn : Int)) = false := decide_eq_false h2'
  have h2n : decide (400 < wn) = false := decide_eq_false h2
  have HE1 : Hid (ER = 0) := E0.out (by omega)
  have HO1 : Hid (OUT = l ++ (U ++ R)) := by
    show _ = _
    rw [HOUT.out]
    unfold mdL
    rw [if_pos (by rw [← HER.out]; exact HE1.out), HMD.out]
  clear h1 h2
  go_wp2_with fail
  refine CR.out.mono ?_
  rintro e w8 ⟨rfl, rfl⟩
  go_wp2
  go_ret2
  exact ⟨A7, n5, c7, by rw [HE1.out]; rfl, by rw [HO1.out]; exact HR5.out, by rw [HO1.out]; exact HL5.out, hc5.1, hc5.2, B7.out⟩
end Go.Proofs.Ytnjenggijmbhcaa
/-
  Walk of the law UndoPlans, given undo.Net's contract.
-/
namespace Go.Proofs.Ytnjenggijmbhcaa
open Go.RowKit
set_option maxRecDepth 100000 in
set_option maxHeartbeats 20000000 in
theorem plansP (NU : NetSays) (p0 : Int) (A0 : Option Addr) (n0 c0 : Nat) (ws : List Wk) (p span at_ k a : Int) (s : ByteArray) (A : Option Addr) (n c : Nat) (l : List Wk) (w : World) (hnc0 : n0 ≤ c0) (hc0 : c0 ≤ 9223372036854775807) (hw0 : RdW w w.heap.size A0 ws) (hl0 : ws.length = n0) (hs0 : ∀ x ∈ ws, x.word.size ≤ 9223372036854775807)
    (hnc : n ≤ c) (hc : c ≤ 9223372036854775807) (hw : RdW w w.heap.size A l) (hl : l.length = n) (hs : ∀ x ∈ l, x.word.size ≤ 9223372036854775807) (hs2 : s.size ≤ 9223372036854775807) :
    Calls Try.prog 10 #[.agg #[.int .i64 p0, .slice A0 n0 c0], .agg #[.int .i64 p, .int .i64 span, .slice A n c, .int .i64 at_, .int .i64 k, .int .i64 a, .string s]] w fun e w' => e = .returned (.bool true) ∧ Below w.heap.size w w' := by
  have AWK := Lib.hid (fun W => awakeOf NU W)
  have HW0 := Lib.hid hw0
  have HL0 := Lib.hid hl0
  have HS0 := Lib.hid hs0
  have HW := Lib.hid hw
  have HL := Lib.hid hl
  have HS := Lib.hid hs
  clear NU hw0 hl0 hs0 hw hl hs
  obtain ⟨W2, hW2⟩ : ∃ W, W = ((w.alloc (.cells #[.int .i64 p0, .slice A0 n0 c0] 24)).alloc (.cells #[.int .i64 p, .int .i64 span, .slice A n c, .int .i64 at_, .int .i64 k, .int .i64 a, .string s] 49)) := ⟨_, rfl⟩
  have B0 : Below w.heap.size w W2 := by rw [hW2]; go_grown
  have K0 : Has W2 w.heap.size 24 [.int .i64 p0, .slice A0 n0 c0] := by rw [hW2]; exact (Has.new rfl).alloc _
  have K1 : Has W2 (w.heap.size + 1) 49 [.int .i64 p, .int .i64 span, .slice A n c, .int .i64 at_, .int .i64 k, .int .i64 a, .string s] := by
    have h := Has.new (w := w.alloc (.cells #[.int .i64 p0, .slice A0 n0 c0] 24)) (arr := #[.int .i64 p, .int .i64 span, .slice A n c, .int .i64 at_, .int .i64 k, .int .i64 a, .string s]) (t := 49) (cs := [.int .i64 p, .int .i64 span, .slice A n c, .int .i64 at_, .int .i64 k, .int .i64 a, .string s]) rfl
    rw [World.size_alloc] at h
    rw [hW2]; exact h
  have CF := Lib.hid (fun (W : World) => far11 p0 30 A0 n0 c0 W (by omega))
  obtain ⟨fb, hfb⟩ : ∃ b, b = (decide ((30 : Int) < n0 ∧ n0 ≤ 400) || decide (450 < n0)) := ⟨_, rfl⟩
  rw [← hfb] at CF
  clear hfb
  have HK0 := Lib.hid K0
  have HK1 := Lib.hid K1
  have HB0 := Lib.hid B0
  clear K0 K1 B0
  go_enter Try.func10, Try.ntmps10
  go_upto_region 1 with (fail)
  rw [← hW2]
  clear hW2
  have s0 : W2.cell? ⟨w.heap.size, 0, none⟩ = some (.int .i64 p0) := HK0.out.cell 0
  have s1 : W2.cell? ⟨w.heap.size, 1, none⟩ = some (.slice A0 n0 c0) := HK0.out.cell 1
  have s2 := HK0.out.lt
  go_wp2_with fail
  refine (CF.out _).mono ?_
  rintro e w1 ⟨rfl, hb1⟩
  have G0 := Lib.hid (HK0.out.below hb1 HK0.out.lt)
  have G1 := Lib.hid (HK1.out.below hb1 HK1.out.lt)
  have B1 := Lib.hid (bvia HB0.out hb1)
  clear s0 s1 s2 CF hb1 HK0 HK1 HB0
  have f2 : w1.cell? ⟨w.heap.size + 1, 2, none⟩ = some (.slice A n c) := G1.out.cell 2
  have f6 : w1.cell? ⟨w.heap.size + 1, 6, none⟩ = some (.string s) := G1.out.cell 6
  have f9 := G1.out.lt
  by_cases hgo : fb = false ∧ ¬ (30 < n ∧ n ≤ 1000) ∧ ¬ 1100 < n ∧ ¬ 100 < s.size
  case neg =>
    cases fb with
    | true =>
      go_wp2_with fail
      refine (AWK.out _).mono ?_
      rintro e w2 ⟨rfl, hb2⟩
      go_wp2
      go_ret
      exact ⟨rfl, bvia B1.out hb2⟩
    | false =>
      by_cases g1 : 30 < n
      · have g1' : (30 : Int) < (n : Int) := by omega
        by_cases g2 : n ≤ 1000
        · have g2' : (n : Int) ≤ 1000 := by omega
          clear hgo
          go_wp2_with fail
          refine (AWK.out _).mono ?_
          rintro e w2 ⟨rfl, hb2⟩
          go_wp2
          go_ret
          exact ⟨rfl, bvia B1.out hb2⟩
        · have g2' : ¬ (n : Int) ≤ 1000 := by omega
          by_cases g3 : 1100 < n
          · have g3' : (1100 : Int) < (n : Int) := by omega
            clear hgo
            go_wp2_with fail
            refine (AWK.out _).mono ?_
            rintro e w2 ⟨rfl, hb2⟩
            go_wp2
            go_ret
            exact ⟨rfl, bvia B1.out hb2⟩
          · have g3' : ¬ (1100 : Int) < (n : Int) := by omega
            have g4 : 100 < s.size := Nat.lt_of_not_le (fun hh => hgo ⟨rfl, by omega, by omega, by omega⟩)
            have g4' : (100 : Int) < (s.size : Int) := by omega
            clear g4
            clear hgo
            go_wp2_with fail
            refine (AWK.out _).mono ?_
            rintro e w2 ⟨rfl, hb2⟩
            go_wp2
            go_ret
            exact ⟨rfl, bvia B1.out hb2⟩
      · have g1' : ¬ (30 : Int) < (n : Int) := by omega
        have g3' : ¬ (1100 : Int) < (n : Int) := by omega
        have g4 : 100 < s.size := Nat.lt_of_not_le (fun hh => hgo ⟨rfl, by omega, by omega, by omega⟩)
        have g4' : (100 : Int) < (s.size : Int) := by omega
        clear g4
        clear hgo
        go_wp2_with fail
        refine (AWK.out _).mono ?_
        rintro e w2 ⟨rfl, hb2⟩
        go_wp2
        go_ret
        exact ⟨rfl, bvia B1.out hb2⟩
  obtain ⟨rfl, q1, q2, q3⟩ := hgo
  have g3' : ¬ (1100 : Int) < (n : Int) := by omega
  have g4' : ¬ (100 : Int) < (s.size : Int) := by omega
  obtain ⟨U, hU⟩ : ∃ U, U = plU p0 span ws at_ ⟨k, a, s⟩ := ⟨_, rfl⟩
  obtain ⟨R, hR⟩ : ∃ R, R = plR p0 span ws at_ ⟨k, a, s⟩ := ⟨_, rfl⟩
  obtain ⟨E, hE⟩ : ∃ E, E = plE p0 span ws at_ ⟨k, a, s⟩ := ⟨_, rfl⟩
  obtain ⟨O, hO⟩ : ∃ O, O = mdL p span l at_ ⟨k, a, s⟩ := ⟨_, rfl⟩
  obtain ⟨F, hF⟩ : ∃ F, F = mdE p span l at_ ⟨k, a, s⟩ := ⟨_, rfl⟩
  have CP := fun (W : World) (hW : RdW W W.heap.size A0 ws) => unPlan p0 span at_ k a s A0 n0 c0 ws W (by omega) hnc0 hc0 hW HL0.out HS0.out hs2
  have CQ := fun (W : World) (hW : RdW W W.heap.size A0 ws) => plan28 p0 span at_ k a s A0 n0 c0 ws W (by omega) hW HL0.out HS0.out hs2
  have CM := fun (W : World) (hW : RdW W W.heap.size A l) => unMend p span at_ k a s A n c l W hnc hc hW HL.out HS.out hs2
  have CN := fun (W : World) (hW : RdW W W.heap.size A l) => mend28 p span at_ k a s A n c l W hnc hc hW HL.out HS.out hs2
  rw [← hU, ← hR, ← hE] at CP CQ
  rw [← hO, ← hF] at CM CN
  have HCP := Lib.hid (CP w1 (HW0.out.up B1.out))
  have HCQ := Lib.hid CQ
  have HCM := Lib.hid CM
  have HCN := Lib.hid CN
  clear hU hR hE hO hF CP CQ CM CN q2 q3
  have f0 : w1.cell? ⟨w.heap.size + 1, 0, none⟩ = some (.int .i64 p) := G1.out.cell 0
  have f1 : w1.cell? ⟨w.heap.size + 1, 1, none⟩ = some (.int .i64 span) := G1.out.cell 1
  have f3 : w1.cell? ⟨w.heap.size + 1, 3, none⟩ = some (.int .i64 at_) := G1.out.cell 3
  have f4 : w1.cell? ⟨w.heap.size + 1, 4, none⟩ = some (.int .i64 k) := G1.out.cell 4
  have f5 : w1.cell? ⟨w.heap.size + 1, 5, none⟩ = some (.int .i64 a) := G1.out.cell 5
  have s0 : w1.cell? ⟨w.heap.size, 0, none⟩ = some (.int .i64 p0) := G0.out.cell 0
  have s1 : w1.cell? ⟨w.heap.size, 1, none⟩ = some (.slice A0 n0 c0) := G0.out.cell 1
  have s2 := G0.out.lt
  by_cases g1 : 30 < n
  · have g1' : (30 : Int) < (n : Int) := by omega
    have g2' : ¬ (n : Int) ≤ 1000 := by omega
    clear q1
    go_wp2_with fail
    refine HCP.out.mono ?_
    rintro e w2 ⟨A1, n1, c1, A2, n2, c2, rfl, r1, l1, m1, o1, r2, l2, m2, o2, hb2⟩
    have H0 := Lib.hid (G0.out.below hb2 G0.out.lt)
    have H1 := Lib.hid (G1.out.below hb2 G1.out.lt)
    have B2 := Lib.hid (bvia B1.out hb2)
    have R1 := Lib.hid r1
    have R2 := Lib.hid r2
    clear f0 f1 f2 f3 f4 f5 f6 f9 s0 s1 s2 r1 r2 hb2 HCP G0 G1 B1
    have f0 : w2.cell? ⟨w.heap.size + 1, 0, none⟩ = some (.int .i64 p) := H1.out.cell 0
    have f1 : w2.cell? ⟨w.heap.size + 1, 1, none⟩ = some (.int .i64 span) := H1.out.cell 1
    have f2 : w2.cell? ⟨w.heap.size + 1, 2, none⟩ = some (.slice A n c) := H1.out.cell 2
    have f3 : w2.cell? ⟨w.heap.size + 1, 3, none⟩ = some (.int .i64 at_) := H1.out.cell 3
    have f4 : w2.cell? ⟨w.heap.size + 1, 4, none⟩ = some (.int .i64 k) := H1.out.cell 4
    have f5 : w2.cell? ⟨w.heap.size + 1, 5, none⟩ = some (.int .i64 a) := H1.out.cell 5
    have f6 : w2.cell? ⟨w.heap.size + 1, 6, none⟩ = some (.string s) := H1.out.cell 6
    have f9 := H1.out.lt
    have s0 : w2.cell? ⟨w.heap.size, 0, none⟩ = some (.int .i64 p0) := H0.out.cell 0
    have s1 : w2.cell? ⟨w.heap.size, 1, none⟩ = some (.slice A0 n0 c0) := H0.out.cell 1
    have s2 := H0.out.lt
    have C2 := HCQ.out w2 (HW0.out.up B2.out)
    go_wp2_with fail
    refine C2.mono ?_
    rintro e w3 ⟨A3, n3, c3, A4, n4, c4, rfl, r3, l3, m3, o3, r4, l4, m4, o4, hb3⟩
    have I1 := Lib.hid (H1.out.below hb3 H1.out.lt)
    have B3 := Lib.hid (bvia B2.out hb3)
    have R1b := Lib.hid (R1.out.up hb3)
    have R2b := Lib.hid (R2.out.up hb3)
    have R3 := Lib.hid r3
    have R4 := Lib.hid r4
    clear f0 f1 f2 f3 f4 f5 f6 f9 s0 s1 s2 r3 r4 hb3 C2 HCQ H0 H1 B2 R1 R2
    have f0 : w3.cell? ⟨w.heap.size + 1, 0, none⟩ = some (.int .i64 p) := I1.out.cell 0
    have f1 : w3.cell? ⟨w.heap.size + 1, 1, none⟩ = some (.int .i64 span) := I1.out.cell 1
    have f2 : w3.cell? ⟨w.heap.size + 1, 2, none⟩ = some (.slice A n c) := I1.out.cell 2
    have f3 : w3.cell? ⟨w.heap.size + 1, 3, none⟩ = some (.int .i64 at_) := I1.out.cell 3
    have f4 : w3.cell? ⟨w.heap.size + 1, 4, none⟩ = some (.int .i64 k) := I1.out.cell 4
    have f5 : w3.cell? ⟨w.heap.size + 1, 5, none⟩ = some (.int .i64 a) := I1.out.cell 5
    have f6 : w3.cell? ⟨w.heap.size + 1, 6, none⟩ = some (.string s) := I1.out.cell 6
    have f9 := I1.out.lt
    have C3 := HCM.out w3 (HW.out.up B3.out)
    go_wp2_with fail
    refine C3.mono ?_
    rintro e w4 ⟨A5, n5, c5, rfl, r5, l5, m5, o5, hb4⟩
    have J1 := Lib.hid (I1.out.below hb4 I1.out.lt)
    have B4 := Lib.hid (bvia B3.out hb4)
    have R1c := Lib.hid (R1b.out.up hb4)
    have R2c := Lib.hid (R2b.out.up hb4)
    have R3c := Lib.hid (R3.out.up hb4)
    have R4c := Lib.hid (R4.out.up hb4)
    have R5 := Lib.hid r5
    clear f0 f1 f2 f3 f4 f5 f6 f9 r5 hb4 C3 HCM I1 B3 R1b R2b R3 R4
    have f0 : w4.cell? ⟨w.heap.size + 1, 0, none⟩ = some (.int .i64 p) := J1.out.cell 0
    have f1 : w4.cell? ⟨w.heap.size + 1, 1, none⟩ = some (.int .i64 span) := J1.out.cell 1
    have f2 : w4.cell? ⟨w.heap.size + 1, 2, none⟩ = some (.slice A n c) := J1.out.cell 2
    have f3 : w4.cell? ⟨w.heap.size + 1, 3, none⟩ = some (.int .i64 at_) := J1.out.cell 3
    have f4 : w4.cell? ⟨w.heap.size + 1, 4, none⟩ = some (.int .i64 k) := J1.out.cell 4
    have f5 : w4.cell? ⟨w.heap.size + 1, 5, none⟩ = some (.int .i64 a) := J1.out.cell 5
    have f6 : w4.cell? ⟨w.heap.size + 1, 6, none⟩ = some (.string s) := J1.out.cell 6
    have f9 := J1.out.lt
    have C4 := HCN.out w4 (HW.out.up B4.out)
    go_wp2_with fail
    refine C4.mono ?_
    rintro e w5 ⟨A6, n6, c6, rfl, r6, l6, m6, o6, hb5⟩
    have B5 := Lib.hid (bvia B4.out hb5)
    have R1d := Lib.hid (R1c.out.up hb5)
    have R2d := Lib.hid (R2c.out.up hb5)
    have R3d := Lib.hid (R3c.out.up hb5)
    have R4d := Lib.hid (R4c.out.up hb5)
    have R5d := Lib.hid (R5.out.up hb5)
    have R6 := Lib.hid r6
    have S1 := sameSt A1 A3 n1 n3 c1 c3 U U w5 (by omega) (by omega) R1d.out R3d.out l1 l3
    rw [show (U == U) = true from beq_self_eq_true U] at S1
    have HS1 := Lib.hid S1
    clear f0 f1 f2 f3 f4 f5 f6 f9 r6 hb5 C4 HCN J1 B4 R1c R2c R3c R4c R5 S1
    have ee : (E == E) = true := by simp
    have ff : (F == F) = true := by simp
    go_wp2_with fail
    refine HS1.out.mono ?_
    rintro e w6 ⟨rfl, hb6⟩
    have S2 := sameSt A2 A4 n2 n4 c2 c4 R R w6 (by omega) (by omega) (R2d.out.up hb6) (R4d.out.up hb6) l2 l4
    rw [show (R == R) = true from beq_self_eq_true R] at S2
    have HS2 := Lib.hid S2
    have B6 := Lib.hid (bvia B5.out hb6)
    have R5e := Lib.hid (R5d.out.up hb6)
    have R6e := Lib.hid (R6.out.up hb6)
    clear hb6 HS1 S2 R1d R2d R3d R4d R5d R6 B5
    go_wp2_with fail
    refine HS2.out.mono ?_
    rintro e w7 ⟨rfl, hb7⟩
    have S3 := sameSt A5 A6 n5 n6 c5 c6 O O w7 (by omega) (by omega) (R5e.out.up hb7) (R6e.out.up hb7) l5 l6
    rw [show (O == O) = true from beq_self_eq_true O] at S3
    have HS3 := Lib.hid S3
    have B7 := Lib.hid (bvia B6.out hb7)
    clear hb7 HS2 S3 R5e R6e B6
    go_wp2_with fail
    refine HS3.out.mono ?_
    rintro e w8 ⟨rfl, hb8⟩
    have B8 := Lib.hid (bvia B7.out hb8)
    clear hb8 HS3 B7
    go_wp2_with fail
    refine (AWK.out _).mono ?_
    rintro e w9 ⟨rfl, hb9⟩
    go_wp2
    go_ret
    exact ⟨rfl, bvia B8.out hb9⟩
  · have g1' : ¬ (30 : Int) < (n : Int) := by omega
    have d1 : decide ((30 : Int) < (n : Int)) = false := decide_eq_false (by omega)
    have d1n : decide (30 < n) = false := decide_eq_false (by omega)
    have d3 : decide ((1100 : Int) < (n : Int)) = false := decide_eq_false (by omega)
    have d3n : decide (1100 < n) = false := decide_eq_false (by omega)
    have d4 : decide ((100 : Int) < (s.size : Int)) = false := decide_eq_false (by omega)
    have d4n : decide (100 < s.size) = false := decide_eq_false (by omega)
    clear q1 g1
    go_wp2_with fail
    refine HCP.out.mono ?_
    rintro e w2 ⟨A1, n1, c1, A2, n2, c2, rfl, r1, l1, m1, o1, r2, l2, m2, o2, hb2⟩
    have H0 := Lib.hid (G0.out.below hb2 G0.out.lt)
    have H1 := Lib.hid (G1.out.below hb2 G1.out.lt)
    have B2 := Lib.hid (bvia B1.out hb2)
    have R1 := Lib.hid r1
    have R2 := Lib.hid r2
    clear f0 f1 f2 f3 f4 f5 f6 f9 s0 s1 s2 r1 r2 hb2 HCP G0 G1 B1
    have f0 : w2.cell? ⟨w.heap.size + 1, 0, none⟩ = some (.int .i64 p) := H1.out.cell 0
    have f1 : w2.cell? ⟨w.heap.size + 1, 1, none⟩ = some (.int .i64 span) := H1.out.cell 1
    have f2 : w2.cell? ⟨w.heap.size + 1, 2, none⟩ = some (.slice A n c) := H1.out.cell 2
    have f3 : w2.cell? ⟨w.heap.size + 1, 3, none⟩ = some (.int .i64 at_) := H1.out.cell 3
    have f4 : w2.cell? ⟨w.heap.size + 1, 4, none⟩ = some (.int .i64 k) := H1.out.cell 4
    have f5 : w2.cell? ⟨w.heap.size + 1, 5, none⟩ = some (.int .i64 a) := H1.out.cell 5
    have f6 : w2.cell? ⟨w.heap.size + 1, 6, none⟩ = some (.string s) := H1.out.cell 6
    have f9 := H1.out.lt
    have s0 : w2.cell? ⟨w.heap.size, 0, none⟩ = some (.int .i64 p0) := H0.out.cell 0
    have s1 : w2.cell? ⟨w.heap.size, 1, none⟩ = some (.slice A0 n0 c0) := H0.out.cell 1
    have s2 := H0.out.lt
    have C2 := HCQ.out w2 (HW0.out.up B2.out)
    go_wp2_with fail
    refine C2.mono ?_
    rintro e w3 ⟨A3, n3, c3, A4, n4, c4, rfl, r3, l3, m3, o3, r4, l4, m4, o4, hb3⟩
    have I1 := Lib.hid (H1.out.below hb3 H1.out.lt)
    have B3 := Lib.hid (bvia B2.out hb3)
    have R1b := Lib.hid (R1.out.up hb3)
    have R2b := Lib.hid (R2.out.up hb3)
    have R3 := Lib.hid r3
    have R4 := Lib.hid r4
    clear f0 f1 f2 f3 f4 f5 f6 f9 s0 s1 s2 r3 r4 hb3 C2 HCQ H0 H1 B2 R1 R2
    have f0 : w3.cell? ⟨w.heap.size + 1, 0, none⟩ = some (.int .i64 p) := I1.out.cell 0
    have f1 : w3.cell? ⟨w.heap.size + 1, 1, none⟩ = some (.int .i64 span) := I1.out.cell 1
    have f2 : w3.cell? ⟨w.heap.size + 1, 2, none⟩ = some (.slice A n c) := I1.out.cell 2
    have f3 : w3.cell? ⟨w.heap.size + 1, 3, none⟩ = some (.int .i64 at_) := I1.out.cell 3
    have f4 : w3.cell? ⟨w.heap.size + 1, 4, none⟩ = some (.int .i64 k) := I1.out.cell 4
    have f5 : w3.cell? ⟨w.heap.size + 1, 5, none⟩ = some (.int .i64 a) := I1.out.cell 5
    have f6 : w3.cell? ⟨w.heap.size + 1, 6, none⟩ = some (.string s) := I1.out.cell 6
    have f9 := I1.out.lt
    have C3 := HCM.out w3 (HW.out.up B3.out)
    go_wp2_with fail
    refine C3.mono ?_
    rintro e w4 ⟨A5, n5, c5, rfl, r5, l5, m5, o5, hb4⟩
    have J1 := Lib.hid (I1.out.below hb4 I1.out.lt)
    have B4 := Lib.hid (bvia B3.out hb4)
    have R1c := Lib.hid (R1b.out.up hb4)
    have R2c := Lib.hid (R2b.out.up hb4)
    have R3c := Lib.hid (R3.out.up hb4)
    have R4c := Lib.hid (R4.out.up hb4)
    have R5 := Lib.hid r5
    clear f0 f1 f2 f3 f4 f5 f6 f9 r5 hb4 C3 HCM I1 B3 R1b R2b R3 R4
    have f0 : w4.cell? ⟨w.heap.size + 1, 0, none⟩ = some (.int .i64 p) := J1.out.cell 0
    have f1 : w4.cell? ⟨w.heap.size + 1, 1, none⟩ = some (.int .i64 span) := J1.out.cell 1
    have f2 : w4.cell? ⟨w.heap.size + 1, 2, none⟩ = some (.slice A n c) := J1.out.cell 2
    have f3 : w4.cell? ⟨w.heap.size + 1, 3, none⟩ = some (.int .i64 at_) := J1.out.cell 3
    have f4 : w4.cell? ⟨w.heap.size + 1, 4, none⟩ = some (.int .i64 k) := J1.out.cell 4
    have f5 : w4.cell? ⟨w.heap.size + 1, 5, none⟩ = some (.int .i64 a) := J1.out.cell 5
    have f6 : w4.cell? ⟨w.heap.size + 1, 6, none⟩ = some (.string s) := J1.out.cell 6
    have f9 := J1.out.lt
    have C4 := HCN.out w4 (HW.out.up B4.out)
    go_wp2_with fail
    refine C4.mono ?_
    rintro e w5 ⟨A6, n6, c6, rfl, r6, l6, m6, o6, hb5⟩
    have B5 := Lib.hid (bvia B4.out hb5)
    have R1d := Lib.hid (R1c.out.up hb5)
    have R2d := Lib.hid (R2c.out.up hb5)
    have R3d := Lib.hid (R3c.out.up hb5)
    have R4d := Lib.hid (R4c.out.up hb5)
    have R5d := Lib.hid (R5.out.up hb5)
    have R6 := Lib.hid r6
    have S1 := sameSt A1 A3 n1 n3 c1 c3 U U w5 (by omega) (by omega) R1d.out R3d.out l1 l3
    rw [show (U == U) = true from beq_self_eq_true U] at S1
    have HS1 := Lib.hid S1
    clear f0 f1 f2 f3 f4 f5 f6 f9 r6 hb5 C4 HCN J1 B4 R1c R2c R3c R4c R5 S1
    have ee : (E == E) = true := by simp
    have ff : (F == F) = true := by simp
    go_wp2_with fail
    refine HS1.out.mono ?_
    rintro e w6 ⟨rfl, hb6⟩
    have S2 := sameSt A2 A4 n2 n4 c2 c4 R R w6 (by omega) (by omega) (R2d.out.up hb6) (R4d.out.up hb6) l2 l4
    rw [show (R == R) = true from beq_self_eq_true R] at S2
    have HS2 := Lib.hid S2
    have B6 := Lib.hid (bvia B5.out hb6)
    have R5e := Lib.hid (R5d.out.up hb6)
    have R6e := Lib.hid (R6.out.up hb6)
    clear hb6 HS1 S2 R1d R2d R3d R4d R5d R6 B5
    go_wp2_with fail
    refine HS2.out.mono ?_
    rintro e w7 ⟨rfl, hb7⟩
    have S3 := sameSt A5 A6 n5 n6 c5 c6 O O w7 (by omega) (by omega) (R5e.out.up hb7) (R6e.out.up hb7) l5 l6
    rw [show (O == O) = true from beq_self_eq_true O] at S3
    have HS3 := Lib.hid S3
    have B7 := Lib.hid (bvia B6.out hb7)
    clear hb7 HS2 S3 R5e R6e B6
    go_wp2_with fail
    refine HS3.out.mono ?_
    rintro e w8 ⟨rfl, hb8⟩
    have B8 := Lib.hid (bvia B7.out hb8)
    clear hb8 HS3 B7
    go_wp2_with fail
    refine (AWK.out _).mono ?_
    rintro e w9 ⟨rfl, hb9⟩
    go_wp2
    go_ret
    exact ⟨rfl, bvia B8.out hb9⟩
end Go.Proofs.Ytnjenggijmbhcaa
