/-
  Plain law: the document's quick instructions, as they grow; contract of torchonref15.check.
-/
import Derived.Test.YtnjenggijmbhcaaVE2
import Derived.Test.YtnjenggijmbhcaaVK1
import Derived.Test.YtnjenggijmbhcaaVK28
import Derived.Test.YtnjenggijmbhcaaVK35
import Derived.Test.YtnjenggijmbhcaaVP3
import Derived.Test.YtnjenggijmbhcaaVP4
namespace Go.Proofs.Ytnjenggijmbhcaa
open Go.RowKit
def nxZ (ws : List Wk) (m : Nat) (D : Nat → Bool) (hz : Int) : Option Nat := if hz < 0 then none else nxt ws D hz.toNat m
def swZ (ws : List Wk) (m : Nat) (D : Nat → Bool) (hz : Int) : List Nat := if hz < 0 then [] else sweep ws hz.toNat m D
/-- what is still to be written: hands at hz, D is made -/
def Rst (ws : List Wk) (k m : Nat) (hz : Int) (D : Nat → Bool) : List Wk := stepsAt ws (swZ ws m D hz) ++ qkF ws k m ws.length (mkAll D (swZ ws m D hz))
theorem best_nxZ {ws : List Wk} {D : Nat → Bool} {hz : Int} {s : Nat} (hs : 2 ≤ s) : bestTo ws D hz (s : Int) ws.length = nxZ ws (s - 1) D hz := by
  unfold nxZ
  by_cases h : hz < 0
  · rw [if_pos h, best_neg h]
  · rw [if_neg h, ← best_nxt hs, Int.toNat_of_nonneg (by omega)]
theorem qkF_fuel {ws : List Wk} {k m : Nat} (hm : 1 ≤ m) (hk : 1 ≤ k) (hr : ∀ i, i < ws.length → 0 ≤ wat ws i ∧ wat ws i < (k : Int) - 1 + m) : ∀ (f g : Nat) (D : Nat → Bool), und ws D ≤ f → und ws D ≤ g → qkF ws k m f D = qkF ws k m g D
  | 0, g, D, h1, _ => by rw [qkF_zero (by omega), qkF_zero (by omega)]
  | f + 1, g, D, h1, h2 => by
    by_cases h0 : und ws D = 0
    · rw [qkF_zero h0, qkF_zero h0]
    · obtain ⟨g, rfl⟩ : ∃ g', g = g' + 1 := ⟨g - 1, by omega⟩
      have hp := best_pos hm hk hr (by omega : 0 < und ws D)
      have hs := sweep_und (ws := ws) (h := bstQ ws m D k) (m := m) (und ws D) (D := D) (Nat.le_refl _)
      unfold much at hp
      rw [qkF_succ h0, qkF_succ h0, qkF_fuel hm hk hr f g _ (by omega) (by omega)]
theorem rst_some {ws : List Wk} {k m : Nat} {hz : Int} {D : Nat → Bool} {i : Nat} (h : nxZ ws m D hz = some i) : Rst ws k m hz D = stepAt ws i :: Rst ws k m hz (mkD D i) := by
  have h0 : ¬ hz < 0 := fun c => by unfold nxZ at h; rw [if_pos c] at h; cases h
  unfold nxZ at h
  rw [if_neg h0] at h
  unfold Rst swZ
  rw [if_neg h0, if_neg h0, sweep_some h]
  rfl
theorem nxZ_lt {ws : List Wk} {m : Nat} {hz : Int} {D : Nat → Bool} {i : Nat} (h : nxZ ws m D hz = some i) : i < ws.length ∧ D i = false := by
  unfold nxZ at h
  split at h
  · cases h
  · obtain ⟨q, _, _, hf, _⟩ := nxt_some h
    exact frt_lt hf
theorem rst_none {ws : List Wk} {k m : Nat} {hz : Int} {D : Nat → Bool} (hm : 1 ≤ m) (hk : 1 ≤ k) (hr : ∀ i, i < ws.length → 0 ≤ wat ws i ∧ wat ws i < (k : Int) - 1 + m) (h : nxZ ws m D hz = none) (hu : und ws D ≠ 0) :
    Rst ws k m hz D = ⟨1, (bstQ ws m D k : Nat), ⟨#[]⟩⟩ :: Rst ws k m ((bstQ ws m D k : Nat) : Int) D := by
  have e1 : swZ ws m D hz = [] := by
    unfold swZ; unfold nxZ at h
    split
    · rfl
    · rename_i c; rw [if_neg c] at h; exact sweep_none h
  have e2 : swZ ws m D ((bstQ ws m D k : Nat) : Int) = sweep ws (bstQ ws m D k) m D := by
    unfold swZ; rw [if_neg (by omega), Int.toNat_natCast]
  have hl := und_le ws D
  have hp := best_pos hm hk hr (by omega : 0 < und ws D)
  have hs := sweep_und (ws := ws) (h := bstQ ws m D k) (m := m) (und ws D) (D := D) (Nat.le_refl _)
  unfold much at hp
  unfold Rst
  rw [e1, e2]
  show [] ++ qkF ws k m ws.length D = _
  rw [List.nil_append, qkF_fuel hm hk hr ws.length ((ws.length - 1) + 1) D hl (by omega), qkF_succ hu, qkF_fuel hm hk hr (ws.length - 1) ws.length _ (by omega) (und_le _ _)]
  rfl
theorem rst_zero {ws : List Wk} {k m : Nat} {hz : Int} {D : Nat → Bool} (hu : und ws D = 0) : Rst ws k m hz D = [] := by
  have e1 : swZ ws m D hz = [] := by
    unfold swZ
    split
    · rfl
    · refine sweep_none ?_
      cases e : nxt ws D hz.toNat m with
      | none => rfl
      | some i => have := nxt_und e; omega
  unfold Rst
  rw [e1]
  show [] ++ qkF ws k m ws.length D = []
  rw [qkF_zero hu]; rfl
theorem rst_start (p s : Nat) (ws : List Wk) : Rst ws (p - s + 1) (s - 1) (-1) noneD = quickP p s ws := rfl
theorem dOf_none (n : Nat) : dOf (List.replicate n false) = noneD := funext fun k => by
  unfold dOf noneD
  rw [List.getD_eq_getElem?_getD, List.getElem?_replicate]
  split <;> rfl
theorem bst_succ (ws : List Wk) (m : Nat) (D : Nat → Bool) (k : Nat) : bstQ ws m D (k + 1) = if much ws m D (bstQ ws m D k) < much ws m D k then k else bstQ ws m D k := rfl
set_option maxRecDepth 100000 in
set_option maxHeartbeats 1000000 in
theorem check15 (p s : Int) (A : Option Addr) (n c : Nat) (ws : List Wk) (w : World) (hn : n ≤ 9223372036854775807) (hw : RdW w w.heap.size A ws) (hl : ws.length = n) (hs : ∀ x ∈ ws, x.word.size ≤ 9223372036854775807) :
    Calls Try.prog 90 #[.agg #[.int .i64 p, .slice A n c], .int .i64 s] w fun e w' => e = .returned (.int .i64 (qckE p s ws)) ∧ Below w.heap.size w w' := by
  have B0 : Below w.heap.size w (w.alloc (.cells #[.int .i64 p, .slice A n c] 24)) := by go_grown
  have K0 : Has (w.alloc (.cells #[.int .i64 p, .slice A n c] 24)) w.heap.size 24 [.int .i64 p, .slice A n c] := Has.new rfl
  have CC := Lib.hid (check04 p A n c ws _ hn (hw.up B0) hl hs)
  obtain ⟨er, her⟩ : ∃ e, e = schk p ws := ⟨_, rfl⟩
  rw [← her] at CC
  have HER := Lib.hid her
  have CSP := Lib.hid (fun W => spans15 p s W)
  obtain ⟨sb, hsb⟩ : ∃ b, b = spB p s := ⟨_, rfl⟩
  rw [← hsb] at CSP
  have HQ : Hid (qckE p s ws = if er = 0 then (if sb then 0 else 7) else er) := by show _ = _; unfold qckE; rw [← her, ← hsb]
  obtain ⟨qe, hqe⟩ : ∃ e, e = qckE p s ws := ⟨_, rfl⟩
  rw [← hqe] at HQ ⊢
  clear her hsb hqe HER
  have HB0 := Lib.hid B0
  have HK0 := Lib.hid K0
  clear B0 K0 hw hl hs
  go_enter Try.func90, Try.ntmps90
  go_wp2_with fail
  refine CC.out.mono ?_
  rintro e w1 ⟨rfl, hb1⟩
  have K1 := HK0.out.below hb1 HK0.out.lt
  have HB1 := Lib.hid (bvia HB0.out hb1)
  have k0 := K1.cell 0
  have k1 := K1.lt
  clear hb1 HB0 HK0 CC K1
  by_cases h0 : er = 0
  · subst h0
    cases sb with
    | true =>
      have HE : Hid (qe = 0) := HQ.out
      go_wp2_with fail
      refine (CSP.out _).mono ?_
      rintro e w2 ⟨rfl, rfl⟩
      go_wp2
      go_ret
      exact ⟨ret_int HE.out.symm, HB1.out⟩
    | false =>
      have HE : Hid (qe = 7) := HQ.out
      go_wp2_with fail
      refine (CSP.out _).mono ?_
      rintro e w2 ⟨rfl, rfl⟩
      go_wp2
      go_ret
      exact ⟨ret_int HE.out.symm, HB1.out⟩
  · have HE : Hid (qe = er) := HQ.out.trans (if_neg h0)
    have h0' : (er == 0) = false := by simpa using h0
    go_wp2
    go_ret
    exact ⟨ret_int HE.out.symm, HB1.out⟩
end Go.Proofs.Ytnjenggijmbhcaa
/-
  Contract of torchonref15.Quick.
-/
namespace Go.Proofs.Ytnjenggijmbhcaa
open Go.RowKit
theorem infoCp : (Try.prog.info? 64).map (fun i => (i.zero, i.size, i.bytes)) = some (some (.agg #[.int .i64 0, .int .i64 0, .string ⟨#[]⟩]), 3, 32) := by kernel_rfl
theorem mkB15 (n : Nat) (hn : n ≤ 1000) (W : World) : (Instr.makeSlice 50 (.int .i64 (n : Int)) (.int .i64 (n : Int))).run Try.prog W = .ok (.slice (some ⟨W.heap.size, 0, none⟩) n n) (W.alloc (.cells (Array.replicate n (.bool false)) 4)) := by
  obtain ⟨i, hi, hz, hs, hb⟩ := info_parts infoB15
  have h := run_make (P := Try.prog) W 50 4 i (.bool false) Try.underlying50 hi hz .i64 .i64 (n : Int) (n : Int) (by omega) (Int.le_refl _) (by rw [hb]; omega) (by omega)
  rw [Int.toNat_natCast, hs, Nat.mul_one] at h
  have e : madeCells #[.bool false] n = Array.replicate n (.bool false) := by
    apply Array.ext'
    rw [toList_madeCells_one]; simp
  simpa [Value.cells, e] using h
def lenV : Value → Nat | .slice _ n _ => n | _ => 0
theorem hasB_rd {w : World} {g : Nat} {t : TypeId} {ds : List Bool} (h : Has w g t (ds.map vBool)) : RdB w w.heap.size (some ⟨g, 0, none⟩) ds := has_rdB (rest := []) (by rw [List.append_nil]; exact h)
set_option maxRecDepth 100000 in
set_option maxHeartbeats 8000000 in
theorem quick15 (p s : Nat) (A : Option Addr) (n c : Nat) (ws : List Wk) (w : World) (hn : n ≤ 9223372036854775807) (hw : RdW w w.heap.size A ws) (hl : ws.length = n) (hs : ∀ x ∈ ws, x.word.size ≤ 9223372036854775807) (h0 : qckE (p : Int) (s : Int) ws = 0) :
    Calls Try.prog 60 #[.agg #[.int .i64 (p : Int), .slice A n c], .int .i64 (s : Int)] w (RetQE (quickP p s ws) 0 w) := by
  obtain ⟨z1, z2⟩ := qckE_zero h0
  have ok := schk_zero z1
  obtain ⟨hs2, hs8, hsp⟩ := spB_iff z2
  have hs2n : 2 ≤ s := by omega
  have hs8n : s ≤ 8 := by omega
  have hp24 : p ≤ 24 := by have := ok.le; omega
  have hn4 : n ≤ 400 := by have := ok.len; omega
  have HR := Lib.hid (show ∀ x ∈ ws, 0 ≤ x.at_ ∧ x.at_ ≤ (p : Int) - 2 from fun x hx => wkBad_at (ok.good x hx))
  have HR22 := Lib.hid (show ∀ x ∈ ws, 0 ≤ x.at_ ∧ x.at_ ≤ 22 from fun x hx => by have := HR.out x hx; omega)
  have HRD := Lib.hid (show ∀ i, i < ws.length → 0 ≤ wat ws i ∧ wat ws i < ((p - s + 1 : Nat) : Int) - 1 + (s - 1 : Nat) from fun i hi => by
    obtain ⟨x, hx⟩ := get_of_lt hi
    have := HR.out x (mem_of_get hx)
    rw [wat_get hx]; omega)
  have HW := Lib.hid hw
  have HL := Lib.hid hl
  have HQL : Hid ((quickP p s ws).length ≤ 2 * n) := by show _ ≤ _; rw [← HL.out]; exact quickP_le (by omega) HR.out
  obtain ⟨QP, hQP⟩ : ∃ Q, Q = quickP p s ws := ⟨_, rfl⟩
  rw [← hQP] at HQL ⊢
  have HQP := Lib.hid hQP
  clear hQP
  have HS := Lib.hid hs
  have K0 : Has (w.alloc (.cells #[.int .i64 (p : Int), .slice A n c] 24)) w.heap.size 24 [.int .i64 (p : Int), .slice A n c] := Has.new rfl
  have B0 : Below w.heap.size w (w.alloc (.cells #[.int .i64 (p : Int), .slice A n c] 24)) := by go_grown
  have CC := check15 (p : Int) (s : Int) A n c ws _ hn (hw.up B0) hl hs
  rw [h0] at CC
  have HCC := Lib.hid CC
  clear h0 z1 z2 ok hw hl hs CC
  go_enter Try.func60, Try.ntmps60
  go_wp2_with fail
  refine HCC.out.mono ?_
  rintro e w1 ⟨rfl, hb1⟩
  have HK1 := Lib.hid (K0.below hb1 K0.lt)
  have HB1 := Lib.hid (bvia B0 hb1)
  have s0 := HK1.out.cell 0
  have s1 := HK1.out.cell 1
  have s2 := HK1.out.lt
  have MK := fun W => mkB15 n (by omega) W
  clear HCC hb1 K0 B0
  go_wp2_with fail
  have hzw : w.heap.size ≤ w1.heap.size := HB1.out.size
  have GB : Has (w1.alloc (.cells (Array.replicate n (.bool false)) 4)) w1.heap.size 4 ((List.replicate n false).map vBool) := Has.new (by simp)
  have BB : Below w.heap.size w (w1.alloc (.cells (Array.replicate n (.bool false)) 4)) := HB1.out.alloc hzw _
  have KK0 : Has (w1.alloc (.cells (Array.replicate n (.bool false)) 4)) w.heap.size 24 [.int .i64 (p : Int), .slice A n c] := HK1.out.alloc _
  obtain ⟨gm, hgm⟩ : ∃ g, g = w1.heap.size := ⟨_, rfl⟩
  rw [← hgm] at GB
  simp only [← hgm]
  have hgw : w.heap.size < gm := by rw [hgm]; exact s2
  clear hgm MK s0 s1 s2
  go_loopw [8, 9, 10] (fun hv ov lv wr => ∃ (hz : Int) (lf no : Nat) (A' : Option Addr) (c' : Nat) (os : List Wk) (es : List Bool), hv = .int .i64 hz ∧ ov = .slice A' no c' ∧ lv = .int .i64 (lf : Int) ∧ -1 ≤ hz ∧ hz ≤ 1000 ∧ no ≤ 2 * n ∧ lf ≤ n ∧ Hid (os.length = no) ∧ Hid (es.length = n) ∧ Hid (Has wr gm 4 (es.map vBool)) ∧ Hid (Has wr w.heap.size 24 [.int .i64 (p : Int), .slice A n c]) ∧ Hid (wr.ownsRow w.heap.size 64 3 (.slice A' no c') no (wksCells os)) ∧ Hid (lf = und ws (dOf es)) ∧ Hid (os ++ Rst ws (p - s + 1) (s - 1) hz (dOf es) = QP) ∧ Hid (Below w.heap.size w wr)) (fun _ ov _ _ => 2 * n - lenV ov)
  case atStart => exact ⟨-1, n, 0, none, 0, [], List.replicate n false, rfl, rfl, rfl, by omega, by omega, by omega, Nat.le_refl _, rfl, List.length_replicate, GB, KK0, World.ownsRow_nil _ _ _ _, by show _ = _; rw [dOf_none, und_none, HL.out], by show _ = _; rw [dOf_none, rst_start, HQP.out]; rfl, BB⟩
  case round =>
    clear GB BB KK0 HK1 HB1
    obtain ⟨hz, lf, no, A', c', os, es, rfl, rfl, rfl, hz1, hz2, hno, hlf, HOS, HES, HG, HK, HO, HLF, HRS, HB⟩ := hrel
    obtain ⟨wo, rfl⟩ : ∃ wo : World, wo = wr := ⟨_, rfl⟩
    have s0 := HK.out.cell 0
    have s1 := HK.out.cell 1
    have s2 := HK.out.lt
    have CN := next15 (p : Int) hz (s : Int) A (some ⟨gm, 0, none⟩) n c n ws es wo (HW.out.up HB.out) HL.out (hasB_rd HG.out) HES.out hn4 HR22.out (by omega) (by omega)
    rw [show bestTo ws (dOf es) hz (s : Int) n = nxZ ws (s - 1) (dOf es) hz by rw [← best_nxZ hs2n, HL.out]] at CN
    have HCN := Lib.hid CN
    clear CN
    by_cases hlf0 : lf = 0
    · subst hlf0
      have HE : Hid (os = QP) := by
        have := HRS.out
        rw [rst_zero HLF.out.symm, List.append_nil] at this
        exact this
      have nl : ¬ (0 : Int) < ((0 : Nat) : Int) := by omega
      go_wp2
      go_ret2
      exact ⟨A', no, c', rfl, by rw [← HE.out]; exact own_rdW HO.out, by rw [← HE.out]; exact HOS.out, (own_caps HO.out).1, (own_caps HO.out).2, HB.out⟩
    have hl0 : (0 : Int) < (lf : Int) := by omega
    have hun : Hid (und ws (dOf es) ≠ 0) := by show _ ≠ _; rw [← HLF.out]; exact hlf0
    cases hx : nxZ ws (s - 1) (dOf es) hz with
    | some j =>
      rw [hx, show nI (some j) = (j : Int) from rfl] at HCN
      obtain ⟨hjn, hjD⟩ := nxZ_lt hx
      rw [HL.out] at hjn
      have HU : Hid (lf = und ws (mkD (dOf es) j) + 1) := by show _ = _; rw [HLF.out]; exact und_mk (by rw [HL.out]; exact hjn) hjD
      have HR2 : Hid ((os ++ [stepAt ws j]) ++ Rst ws (p - s + 1) (s - 1) hz (dOf (es.set j true)) = QP) := by
        show _ = _
        rw [dOf_set (by rw [HES.out]; exact hjn), ← HRS.out, rst_some hx, List.append_assoc]; rfl
      have HU2 : Hid (lf - 1 = und ws (dOf (es.set j true))) := by show _ = _; rw [dOf_set (by rw [HES.out]; exact hjn)]; have := HU.out; omega
      have hlen2 : no < 2 * n := by
        have h1 := HQL.out
        rw [← HR2.out, List.length_append, List.length_append, HOS.out] at h1
        simp at h1; omega
      obtain ⟨x, hxx⟩ := get_of_lt (l := ws) (k := j) (by rw [HL.out]; exact hjn)
      have HSX : Hid (stepAt ws j = stepOf x) := by show _ = _; unfold stepAt; rw [hxx]
      have j0 : (0 : Int) ≤ (j : Int) := by omega
      have jn : (j : Int) < (n : Int) := by omega
      obtain ⟨yj, hyj⟩ := get_of_lt (l := es) (k := j) (by rw [HES.out]; exact hjn)
      have HXX := Lib.hid hxx
      have HYJ := Lib.hid hyj
      clear hx hjD hxx hyj
      go_wp2_with fail
      refine HCN.out.mono ?_
      rintro e w2 ⟨rfl, hb2⟩
      have HG2 := Lib.hid (HG.out.below hb2 HG.out.lt)
      have HK2 := Lib.hid (HK.out.below hb2 HK.out.lt)
      have HO2 := Lib.hid (own_below HO.out hb2)
      have HB2 := Lib.hid (bvia HB.out hb2)
      have c0 : w2.cell? ⟨gm, j, none⟩ = some (.bool yj) := (HG2.out.cell j).trans (by rw [List.getElem?_map, HYJ.out]; rfl)
      have y0 := HG2.out.free j
      have y1 := HG2.out.lt
      clear HCN hb2 HG HK HO HB s0 s1 s2
      go_upto_region 12 with (fail)
      have G3 : Has (w2.setCell ⟨gm, j, none⟩ (.bool true)) gm 4 ((es.set j true).map vBool) := by
        have := HG2.out.set j (.bool true)
        rwa [show ((es.map vBool).set j (.bool true)) = (es.set j true).map vBool by rw [List.map_set]] at this
      have hgk : w.heap.size ≠ gm := by omega
      have K3 : Has (w2.setCell ⟨gm, j, none⟩ (.bool true)) w.heap.size 24 [.int .i64 (p : Int), .slice A n c] := HK2.out.far hgk _ _
      have B3 : Below w.heap.size w (w2.setCell ⟨gm, j, none⟩ (.bool true)) := HB2.out.setCell (p := ⟨gm, j, none⟩) (by show _ ≤ gm; omega) _
      have O3 : (w2.setCell ⟨gm, j, none⟩ (.bool true)).ownsRow w.heap.size 64 3 (.slice A' no c') no (wksCells os) := (But.set gm w2 j (.bool true)).own HO2.out (HG2.out.ne_own HO2.out (by decide))
      clear c0 y0 y1 HG2 HK2 HO2 HB2
      generalize (w2.setCell ⟨gm, j, none⟩ (.bool true)) = w3 at *
      have HG3 := Lib.hid G3
      have HK3 := Lib.hid K3
      have HB3 := Lib.hid B3
      have HO3 := Lib.hid O3
      have s0 := K3.cell 0
      have s1 := K3.cell 1
      have s2 := K3.lt
      obtain ⟨bx, ox, hA, hbx, x0, x1, x2⟩ := (HW.out.up HB3.out) j x HXX.out
      subst hA
      have CST := Lib.hid (step15 x.kind x.at_ x.word w3)
      clear G3 K3 B3 O3
      go_wp2_with fail
      refine CST.out.mono ?_
      rintro e w4 ⟨rfl, hb4⟩
      have HG4 := Lib.hid (HG3.out.below hb4 HG3.out.lt)
      have HK4 := Lib.hid (HK3.out.below hb4 HK3.out.lt)
      have HO4 := Lib.hid (own_below HO3.out hb4)
      have HB4 := Lib.hid (bvia HB3.out hb4)
      have hz4 := HB4.out.size
      clear CST hb4 HG3 HK3 HO3 HB3 s0 s1 s2 x0 x1 x2 hbx
      have i1 : IntKind.i64.wrap ((lf : Int) - 1) = ((lf - 1 : Nat) : Int) := by rw [IntWalk.i64_in _ (by omega)]; omega
      go_wp2_with (at_builtin; refine wpList_app rfl (.tmp 41) (.tmp 48) _ rfl w.heap.size 64 (.agg #[.int .i64 0, .int .i64 0, .string ⟨#[]⟩]) 3 32 Try.underlying47 infoCp rfl (by omega) (by omega) (.slice A' no c') _ _ rfl (HO4.out.alloc _) w4.heap.size (wkCells (stepOf x)) rfl rfl (news_wk _ (stepOf x) _) (one_wk _) (by omega) (by simp; omega) ?_; intro g5 cap5 w5 hg5 hown5 hgrow5 hor5)
      go_roundw
      case rel =>
        have KG := (HG4.out.alloc (.cells #[.int .i64 (stepOf x).kind, .int .i64 (stepOf x).at_, .string (stepOf x).word] 64))
        have KS := (HK4.out.alloc (.cells #[.int .i64 (stepOf x).kind, .int .i64 (stepOf x).at_, .string (stepOf x).word] 64))
        have KO := (HO4.out.alloc (.cells #[.int .i64 (stepOf x).kind, .int .i64 (stepOf x).at_, .string (stepOf x).word] 64))
        exact ⟨hz, lf - 1, no + 1, some ⟨g5, 0, none⟩, cap5, os ++ [stepAt ws j], es.set j true, rfl, rfl, rfl, hz1, hz2, by omega, by omega, by show _ = _; rw [List.length_append, HOS.out]; rfl, by show _ = _; rw [List.length_set]; exact HES.out, KG.same (hgrow5.block gm KG.lt (fun e => (KG.ne_own KO (by decide)) e.symm)), KS.same (hgrow5.block w.heap.size KS.lt (fun e => (KS.ne_own KO (by decide)) e.symm)), by show World.ownsRow _ _ _ _ _ _ _; rw [wksCells_app, HSX.out]; exact hown5, HU2, HR2, (HB4.out.alloc hz4 _).grown hgrow5 (by simp; omega) (fun k hk => (KO.lt k hk).1)⟩
      case measure => simp only [lenV]; omega
    | none =>
      rw [hx, show nI none = (-1 : Int) from rfl] at HCN
      have HR2 : Hid ((os ++ [⟨1, (bstQ ws (s - 1) (dOf es) (p - s + 1) : Nat), ⟨#[]⟩⟩]) ++ Rst ws (p - s + 1) (s - 1) ((bstQ ws (s - 1) (dOf es) (p - s + 1) : Nat) : Int) (dOf es) = QP) := by
        show _ = _
        rw [← HRS.out, rst_none (by omega) (by omega) HRD.out hx hun.out, List.append_assoc]; rfl
      have hlen2 : no < 2 * n := by
        have h1 := HQL.out
        rw [← HR2.out, List.length_append, List.length_append, HOS.out] at h1
        simp at h1; omega
      clear hx
      go_wp2_with fail
      refine HCN.out.mono ?_
      rintro e w2 ⟨rfl, hb2⟩
      have HG2 := Lib.hid (HG.out.below hb2 HG.out.lt)
      have HK2 := Lib.hid (HK.out.below hb2 HK.out.lt)
      have HO2 := Lib.hid (own_below HO.out hb2)
      have HB2 := Lib.hid (bvia HB.out hb2)
      clear HCN hb2 HG HK HO HB s0 s1 s2
      go_wp2
      have hn0 : 0 < n := by omega
      go_loopw [12, 13, 14] (fun bv mv kv wr => ∃ (k b mo : Nat), k ≤ p - s + 1 ∧ b ≤ 1000 ∧ bv = .int .i64 (b : Int) ∧ mv = .int .i64 (mo : Int) ∧ kv = .int .i64 (k : Int) ∧ Hid (b = bstQ ws (s - 1) (dOf es) k) ∧ Hid (mo = if k = 0 then 0 else much ws (s - 1) (dOf es) b) ∧ Hid (Below w2.heap.size w2 wr)) (fun _ _ k' _ => (p - s + 1) - (intOf k').toNat)
      case atStart => exact ⟨0, 0, 0, Nat.zero_le _, by omega, rfl, rfl, rfl, rfl, rfl, Below.refl _ _⟩
      case round =>
        obtain ⟨k, b, mo, hk, hbb, rfl, rfl, rfl, HBQ, HMO, HBW⟩ := hrel
        obtain ⟨wq, rfl⟩ : ∃ wq : World, wq = wr := ⟨_, rfl⟩
        have HKq := Lib.hid (HK2.out.below HBW.out HK2.out.lt)
        have s0 := HKq.out.cell 0
        have s1 := HKq.out.cell 1
        have s2 := HKq.out.lt
        have i0 : IntKind.i64.wrap ((p : Int) - (s : Int)) = ((p - s : Nat) : Int) := by rw [IntWalk.i64_in _ (by omega)]; omega
        by_cases hkl : k ≤ p - s
        · have jk : (k : Int) ≤ ((p - s : Nat) : Int) := by omega
          have CMU := much15 (p : Int) k s A gm n c n ws es wq (HW.out.up (bvia HB2.out HBW.out)) HL.out (hasB_rd (HG2.out.below HBW.out HG2.out.lt)) HES.out hn4 hn0 HR22.out ⟨hs2n, hs8n⟩ (by omega)
          obtain ⟨mu, hmu⟩ : ∃ m, m = much ws (s - 1) (dOf es) k := ⟨_, rfl⟩
          rw [← hmu] at CMU
          have HCMU := Lib.hid CMU
          have HMU := Lib.hid hmu
          clear CMU hmu
          go_wp2_with fail
          refine HCMU.out.mono ?_
          rintro e w5 ⟨rfl, hb5⟩
          by_cases hgt : mo < mu
          · have hgt' : (mo : Int) < (mu : Int) := by omega
            have HB5 : Hid (k = bstQ ws (s - 1) (dOf es) (k + 1)) := by
              show _ = _
              rw [bst_succ, ← HBQ.out, ← HMU.out]
              by_cases hk0 : k = 0
              · subst hk0
                have hb0 : b = 0 := HBQ.out
                subst hb0
                split <;> rfl
              · rw [HMO.out, if_neg hk0] at hgt
                rw [if_pos hgt]
            go_wp2
            go_roundw
            case rel => exact ⟨k + 1, k, mu, by omega, by omega, rfl, rfl, by go_num, HB5, by show _ = _; rw [if_neg (by omega), HMU.out], HBW.out.trans (hb5.mono HBW.out.size)⟩
            case measure => first | (simp [intOf]; done) | (simp [intOf]; omega)
          · have hgt' : ¬ (mo : Int) < (mu : Int) := by omega
            have HB5 : Hid (b = bstQ ws (s - 1) (dOf es) (k + 1)) := by
              show _ = _
              rw [bst_succ, ← HBQ.out, ← HMU.out]
              by_cases hk0 : k = 0
              · subst hk0
                have hb0 : b = 0 := HBQ.out
                subst hb0
                split <;> rfl
              · rw [HMO.out, if_neg hk0] at hgt
                rw [if_neg hgt]
            have HM5 : Hid (mo = if k + 1 = 0 then 0 else much ws (s - 1) (dOf es) b) := by
              show _ = _
              rw [if_neg (by omega)]
              by_cases hk0 : k = 0
              · subst hk0
                have hb0 : b = 0 := HBQ.out
                subst hb0
                have h1 := HMO.out
                rw [if_pos rfl] at h1
                rw [← HMU.out]; omega
              · have h1 := HMO.out
                rwa [if_neg hk0] at h1
            go_wp2
            go_roundw
            case rel => exact ⟨k + 1, b, mo, by omega, hbb, rfl, rfl, by go_num, HB5, HM5, HBW.out.trans (hb5.mono HBW.out.size)⟩
            case measure => first | (simp [intOf]; done) | (simp [intOf]; omega)
        · obtain rfl : k = p - s + 1 := by omega
          have jk : ¬ ((p - s + 1 : Nat) : Int) ≤ ((p - s : Nat) : Int) := by omega
          have HGq := Lib.hid (HG2.out.below HBW.out HG2.out.lt)
          have HOq := Lib.hid (own_below HO2.out HBW.out)
          have HBq := Lib.hid (bvia HB2.out HBW.out)
          have hzq := HBq.out.size
          clear HG2 HK2 HO2 HB2
          go_wp2_with (at_builtin; refine wpList_app rfl (.tmp 71) (.tmp 74) _ rfl w.heap.size 64 (.agg #[.int .i64 0, .int .i64 0, .string ⟨#[]⟩]) 3 32 Try.underlying47 infoCp rfl (by omega) (by omega) (.slice A' no c') _ _ rfl (HOq.out.alloc _) wq.heap.size (wkCells ⟨1, (b : Int), ⟨#[]⟩⟩) rfl rfl (news_wk _ ⟨1, (b : Int), ⟨#[]⟩⟩ _) (one_wk _) (by omega) (by simp; omega) ?_; intro g5 cap5 w5 hg5 hown5 hgrow5 hor5)
          go_roundw
          case rel =>
            have KG := (HGq.out.alloc (.cells #[.int .i64 1, .int .i64 (b : Int), .string ⟨#[]⟩] 64))
            have KS := (HKq.out.alloc (.cells #[.int .i64 1, .int .i64 (b : Int), .string ⟨#[]⟩] 64))
            have KO := (HOq.out.alloc (.cells #[.int .i64 1, .int .i64 (b : Int), .string ⟨#[]⟩] 64))
            exact ⟨(b : Int), lf, no + 1, some ⟨g5, 0, none⟩, cap5, os ++ [⟨1, (b : Int), ⟨#[]⟩⟩], es, rfl, rfl, rfl, by omega, by omega, by omega, hlf, by show _ = _; rw [List.length_append, HOS.out]; rfl, HES, KG.same (hgrow5.block gm KG.lt (fun e => (KG.ne_own KO (by decide)) e.symm)), KS.same (hgrow5.block w.heap.size KS.lt (fun e => (KS.ne_own KO (by decide)) e.symm)), by show World.ownsRow _ _ _ _ _ _ _; rw [wksCells_app]; exact hown5, HLF, by show _ = _; rw [HBQ.out]; exact HR2.out, (HBq.out.alloc hzq _).grown hgrow5 (by simp; omega) (fun k hk => (KO.lt k hk).1)⟩
          case measure => simp only [lenV]; omega
end Go.Proofs.Ytnjenggijmbhcaa
/-
  Contract of torchonref28.Plan.
-/
namespace Go.Proofs.Ytnjenggijmbhcaa
open Go.RowKit
set_option maxRecDepth 100000 in
set_option maxHeartbeats 2000000 in
theorem quick15N (p s : Int) (A : Option Addr) (n c : Nat) (ws : List Wk) (w : World) (hn : n ≤ 9223372036854775807) (hw : RdW w w.heap.size A ws) (hl : ws.length = n) (hs : ∀ x ∈ ws, x.word.size ≤ 9223372036854775807) (h0 : qckE p s ws ≠ 0) :
    Calls Try.prog 60 #[.agg #[.int .i64 p, .slice A n c], .int .i64 s] w (RetQE [] (qckE p s ws) w) := by
  have B0 : Below w.heap.size w (w.alloc (.cells #[.int .i64 p, .slice A n c] 24)) := by go_grown
  have HCC := Lib.hid (check15 p s A n c ws _ hn (hw.up B0) hl hs)
  have he : (qckE p s ws != 0) = true := bne_iff_ne.2 h0
  clear hw hl hs h0
  generalize qckE p s ws = er at *
  go_enter Try.func60, Try.ntmps60
  go_wp2_with fail
  refine HCC.out.mono ?_
  rintro e w1 ⟨rfl, hb1⟩
  go_wp2
  go_ret2
  exact ⟨none, 0, 0, rfl, RdW.nil _ _ _, rfl, Nat.le_refl _, by omega, bvia B0 hb1⟩
theorem quickZ15 (p s : Int) (A : Option Addr) (n c : Nat) (ws : List Wk) (w : World) (hw : RdW w w.heap.size A ws) (hl : ws.length = n) (hok : SOk p ws) (hsp : spB p s = true) :
    Calls Try.prog 60 #[.agg #[.int .i64 p, .slice A n c], .int .i64 s] w (RetQE (quickP p.toNat s.toNat ws) 0 w) := by
  obtain ⟨h2, h8, hp⟩ := spB_iff hsp
  obtain ⟨p, rfl⟩ : ∃ q : Nat, p = (q : Int) := ⟨p.toNat, by omega⟩
  obtain ⟨s, rfl⟩ : ∃ q : Nat, s = (q : Int) := ⟨s.toNat, by omega⟩
  have hn : n ≤ 400 := by have := hok.len; omega
  exact quick15 p s A n c ws w (by omega) hw hl (fun x hx => by have := hok.short x hx; omega) (by unfold qckE; rw [hok.zero, if_pos rfl, hsp]; rfl)
theorem quickF15 (p s : Int) (A : Option Addr) (n c : Nat) (ws : List Wk) (w : World) (hw : RdW w w.heap.size A ws) (hl : ws.length = n) (hok : SOk p ws) (hsp : spB p s = false) :
    Calls Try.prog 60 #[.agg #[.int .i64 p, .slice A n c], .int .i64 s] w (RetQE [] 7 w) := by
  have hn : n ≤ 400 := by have := hok.len; omega
  have e : qckE p s ws = 7 := by unfold qckE; rw [hok.zero, if_pos rfl, hsp]; rfl
  have := quick15N p s A n c ws w (by omega) hw hl (fun x hx => by have := hok.short x hx; omega) (by rw [e]; decide)
  rwa [e] at this
set_option maxRecDepth 100000 in
set_option maxHeartbeats 4000000 in
theorem plan28 (p span at_ k a : Int) (s : ByteArray) (A : Option Addr) (n c : Nat) (ws : List Wk) (w : World) (hn : n ≤ 9223372036854775807) (hw : RdW w w.heap.size A ws) (hl : ws.length = n)
    (hs : ∀ x ∈ ws, x.word.size ≤ 9223372036854775807) (hs2 : s.size ≤ 9223372036854775807) :
    Calls Try.prog 34 #[.agg #[.int .i64 p, .slice A n c], .int .i64 span, .int .i64 at_, .agg #[.int .i64 k, .int .i64 a, .string s]] w (RetPl (plU p span ws at_ ⟨k, a, s⟩) (plR p span ws at_ ⟨k, a, s⟩) (plE p span ws at_ ⟨k, a, s⟩) w) := by
  have HW := Lib.hid hw; clear hw
  have HL := Lib.hid hl; clear hl
  have HS := Lib.hid hs; clear hs
  have B0 : Below w.heap.size w ((w.alloc (.cells #[.int .i64 p, .slice A n c] 24)).alloc (.cells #[.int .i64 k, .int .i64 a, .string s] 26)) := by go_grown
  have CA : Hid (Calls Try.prog 38 #[.agg #[.int .i64 p, .slice A n c], .int .i64 at_, .agg #[.int .i64 k, .int .i64 a, .string s]] ((w.alloc (.cells #[.int .i64 p, .slice A n c] 24)).alloc (.cells #[.int .i64 k, .int .i64 a, .string s] 26)) fun e w' => e = .returned (.int .i64 (askE p ws at_ ⟨k, a, s⟩)) ∧ Below ((w.alloc (.cells #[.int .i64 p, .slice A n c] 24)).alloc (.cells #[.int .i64 k, .int .i64 a, .string s] 26)).heap.size ((w.alloc (.cells #[.int .i64 p, .slice A n c] 24)).alloc (.cells #[.int .i64 k, .int .i64 a, .string s] 26)) w') := by
    have h := asked28 p at_ k a s A n c ws _ hn (HW.out.up B0) HL.out HS.out hs2
    show Calls _ _ _ _ _
    unfold askE
    rw [HL.out]
    exact h
  by_cases h0 : askE p ws at_ ⟨k, a, s⟩ = 0
  case neg =>
    have hE := plE_err (span := span) h0
    have hU : plU p span ws at_ ⟨k, a, s⟩ = [] := by unfold plU; rw [hE, if_neg h0]
    have hR : plR p span ws at_ ⟨k, a, s⟩ = [] := by unfold plR; rw [hE, if_neg h0]
    have h3' : (askE p ws at_ ⟨k, a, s⟩ != 0) = true := by simpa using h0
    rw [hE, hU, hR]
    clear h0 hE hU hR
    generalize askE p ws at_ ⟨k, a, s⟩ = q at *
    go_enter Try.func34, Try.ntmps34
    go_wp2_with fail
    refine CA.out.mono ?_
    rintro e w1 ⟨rfl, hb1⟩
    go_wp2
    refine bodyPost_ret (results_tmp3 rfl _ _ _) rfl ?_
    exact ⟨_, _, _, _, _, _, rfl, RdW.nil _ _ _, rfl, Nat.zero_le _, by omega, RdW.nil _ _ _, rfl, Nat.zero_le _, by omega, bvia B0 hb1⟩
  obtain ⟨z1, z2, z3, z4⟩ := askE_zero h0
  have v1 := schk_zero z1
  have v2 := schk_zero z4
  have b1 := valid_at v2 ⟨k, a, s⟩ (by simp)
  have H0 := Lib.hid h0
  rw [HL.out] at z3
  obtain ⟨m, rfl⟩ := Int.eq_ofNat_of_zero_le z2
  obtain ⟨b, rfl⟩ := Int.eq_ofNat_of_zero_le b1.1
  have hb22 : (b : Int) ≤ 22 := b1.2
  have hn4 : n ≤ 400 := by have := v1.len; rw [HL.out] at this; exact this
  obtain ⟨L, hL⟩ : ∃ L, L = abU ws m b n := ⟨_, rfl⟩
  have hLlt : ∀ j ∈ L, j < ws.length := fun j hj => by rw [hL] at hj; have := abU_lt ws m b n (by omega) j hj; rw [HL.out]; exact this
  have hLl : L.length ≤ 400 := by rw [hL]; have := abU_len ws m b n (by omega); omega
  have hLp : 0 < L.length := by rw [hL]; exact abU_pos _ _ _ _
  have okU := Lib.hid (planU_ok v1 hLlt hLl)
  have okR := Lib.hid (planR_ok v1 v2 hLlt hLp hLl)
  have e2 : plL ws (m : Int) ⟨k, (b : Int), s⟩ = L := by unfold plL; rw [HL.out, Int.toNat_natCast]; exact hL.symm
  have e1 := plE_ok (span := span) h0
  have CB := Lib.hid (fun (W : World) (hw : RdW W W.heap.size A ws) => both28 p k s A n c m b ws W hw HL.out (by omega) hn4 (by omega) (fun x hx => valid_at v1 x hx) HS.out)
  rw [← hL] at CB
  have g0 : Has ((w.alloc (.cells #[.int .i64 p, .slice A n c] 24)).alloc (.cells #[.int .i64 k, .int .i64 (b : Int), .string s] 26)) w.heap.size 24 [.int .i64 p, .slice A n c] := (Has.new rfl).alloc _
  have g1 : Has ((w.alloc (.cells #[.int .i64 p, .slice A n c] 24)).alloc (.cells #[.int .i64 k, .int .i64 (b : Int), .string s] 26)) (w.heap.size + 1) 26 [.int .i64 k, .int .i64 (b : Int), .string s] := by
    have h := Has.new (w := w.alloc (.cells #[.int .i64 p, .slice A n c] 24)) (arr := #[.int .i64 k, .int .i64 (b : Int), .string s]) (t := 26) (cs := [.int .i64 k, .int .i64 (b : Int), .string s]) rfl
    rwa [World.size_alloc] at h
  obtain ⟨PU, hPU⟩ : ∃ l, l = plU p span ws (m : Int) ⟨k, (b : Int), s⟩ := ⟨_, rfl⟩
  obtain ⟨PR, hPR⟩ : ∃ l, l = plR p span ws (m : Int) ⟨k, (b : Int), s⟩ := ⟨_, rfl⟩
  obtain ⟨PE, hPE⟩ : ∃ l, l = plE p span ws (m : Int) ⟨k, (b : Int), s⟩ := ⟨_, rfl⟩
  rw [← hPU, ← hPR, ← hPE]
  have HUZ : Hid (PE = 0 → PU = quickP p.toNat span.toNat (planU ws L) ∧ PR = quickP p.toNat span.toNat (planR ⟨k, (b : Int), s⟩ ws L)) := fun h => by
    rw [hPE] at h
    rw [hPU, hPR]; unfold plU plR
    rw [if_pos h, if_pos h, e2]; exact ⟨rfl, rfl⟩
  have HUN : Hid (PE ≠ 0 → PU = [] ∧ PR = []) := fun h => by
    rw [hPE] at h
    rw [hPU, hPR]; unfold plU plR
    rw [if_neg h, if_neg h]; exact ⟨rfl, rfl⟩
  rw [← hPE] at e1
  have HE1 := Lib.hid e1
  have H0' := Lib.hid h0
  clear hPU hPR hPE z1 z2 z3 z4 v1 v2 b1 h0 hL e1 e2 hLlt
  go_enter Try.func34, Try.ntmps34
  go_wp2_with fail
  refine CA.out.mono ?_
  rintro e w1 ⟨rfl, hb1⟩
  rw [H0'.out]
  have HG := Lib.hid (g0.below hb1 g0.lt)
  have HY := Lib.hid (g1.below hb1 g1.lt)
  have B1 := Lib.hid (bvia B0 hb1)
  have s0 := HG.out.cell 0
  have s1 := HG.out.cell 1
  have s2 := HG.out.lt
  have y0 := HY.out.cell 0
  have y1 := HY.out.cell 1
  have y2 := HY.out.cell 2
  have y3 := HY.out.lt
  have CB1 := CB.out w1 (HW.out.up B1.out)
  clear CA CB hb1 g0 g1 B0
  go_wp2_with fail
  refine CB1.mono ?_
  rintro e w2 ⟨A1, n1, c1, A2, n2, c2, rfl, ru, lu, mu, ou, rr, lr, mr, or_, hb2⟩
  have B2 := Lib.hid (bvia B1.out hb2)
  have LU := Lib.hid lu
  have LR := Lib.hid lr
  have X1 : Has ((w2.alloc (.cells #[.int .i64 p, .slice A1 n1 c1] 24)).alloc (.cells #[.int .i64 p, .slice A2 n2 c2] 24)) w2.heap.size 24 [.int .i64 p, .slice A1 n1 c1] := (Has.new rfl).alloc _
  have X2 : Has ((w2.alloc (.cells #[.int .i64 p, .slice A1 n1 c1] 24)).alloc (.cells #[.int .i64 p, .slice A2 n2 c2] 24)) (w2.heap.size + 1) 24 [.int .i64 p, .slice A2 n2 c2] := by
    have h := Has.new (w := w2.alloc (.cells #[.int .i64 p, .slice A1 n1 c1] 24)) (arr := #[.int .i64 p, .slice A2 n2 c2]) (t := 24) (cs := [.int .i64 p, .slice A2 n2 c2]) rfl
    rwa [World.size_alloc] at h
  have B3 : Below w2.heap.size w2 ((w2.alloc (.cells #[.int .i64 p, .slice A1 n1 c1] 24)).alloc (.cells #[.int .i64 p, .slice A2 n2 c2] 24)) := by go_grown
  have RU := Lib.hid (ru.up B3)
  have RR := Lib.hid (rr.up B3)
  have B4 := Lib.hid (bvia B2.out B3)
  have HX2 := Lib.hid X2
  clear CB1 hb2 ru rr lu lr s0 s1 s2 y0 y1 y2 y3
  cases hsp : spB p span with
  | false =>
    have CQ := Lib.hid (quickF15 p span A1 n1 c1 (planU ws L) _ RU.out LU.out okU.out hsp)
    have HE : Hid (PE = 7) := by have := HE1.out; rw [hsp] at this; exact this
    clear hsp X1 X2 B3
    go_wp2_with fail
    refine CQ.out.mono ?_
    rintro e w5 ⟨A5, n5, c5, rfl, r5, l5, m5, o5, hb5⟩
    clear CQ
    go_wp2
    refine bodyPost_ret (results_tmp3 rfl _ _ _) rfl ?_
    obtain ⟨u1, u2⟩ := HUN.out (by rw [HE.out]; decide)
    rw [u1, u2, HE.out]
    exact ⟨none, 0, 0, none, 0, 0, rfl, RdW.nil _ _ _, rfl, Nat.le_refl _, by omega, RdW.nil _ _ _, rfl, Nat.le_refl _, by omega, bvia B4.out hb5⟩
  | true =>
    have CQ := Lib.hid (quickZ15 p span A1 n1 c1 (planU ws L) _ RU.out LU.out okU.out hsp)
    have CQ2 := Lib.hid (fun (W : World) (hW : RdW W W.heap.size A2 (planR ⟨k, (b : Int), s⟩ ws L)) => quickZ15 p span A2 n2 c2 (planR ⟨k, (b : Int), s⟩ ws L) W hW LR.out okR.out hsp)
    have HE : Hid (PE = 0) := by have := HE1.out; rw [hsp] at this; exact this
    obtain ⟨u1, u2⟩ := HUZ.out HE.out
    rw [← u1] at CQ
    rw [← u2] at CQ2
    clear hsp X1 X2 B3 u1 u2
    go_wp2_with fail
    refine CQ.out.mono ?_
    rintro e w5 ⟨A5, n5, c5, rfl, r5, l5, m5, o5, hb5⟩
    have HX5 := Lib.hid (HX2.out.below hb5 HX2.out.lt)
    have R5 := Lib.hid r5
    have HRR5 := Lib.hid (RR.out.up hb5)
    have B5 := Lib.hid (bvia B4.out hb5)
    have x0 := HX5.out.cell 0
    have x1 := HX5.out.cell 1
    have x2 := HX5.out.lt
    have CQ3 := CQ2.out w5 HRR5.out
    clear CQ CQ2 r5 hb5 RR HX2 B4
    go_wp2_with fail
    refine CQ3.mono ?_
    rintro e w6 ⟨A6, n6, c6, rfl, r6, l6, m6, o6, hb6⟩
    clear CQ3
    go_wp2
    refine bodyPost_ret (results_tmp3 rfl _ _ _) rfl ?_
    rw [HE.out]
    exact ⟨A5, n5, c5, A6, n6, c6, rfl, R5.out.up hb6, l5, m5, o5, r6, l6, m6, o6, bvia B5.out hb6⟩
end Go.Proofs.Ytnjenggijmbhcaa
