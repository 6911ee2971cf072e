/-
  Walk of the law UndoLeast, given undo.Net's contract.
-/
import Derived.Test.YtnjenggijmbhcaaVK11
import Derived.Test.YtnjenggijmbhcaaVK26
import Derived.Test.YtnjenggijmbhcaaVE2
import Derived.Test.YtnjenggijmbhcaaVE3
namespace Go.Proofs.Ytnjenggijmbhcaa
open Go.RowKit
theorem mkB28 (n : Nat) (hn : n ≤ 1000) (W : World) : (Instr.makeSlice 50 (.int .i64 (n : Int)) (.int .i64 (n : Int))).run Try.prog W = .ok (.slice (some ⟨W.heap.size, 0, none⟩) n n) (W.alloc (.cells (Array.replicate n (.bool false)) 4)) := by
  have infoB : (Try.prog.info? 4).map (fun i => (i.zero, i.size, i.bytes)) = some (some (.bool false), 1, 1) := by kernel_rfl
  obtain ⟨i, hi, hz, hs, hb⟩ := info_parts infoB
  have h := run_make (P := Try.prog) W 50 4 i (.bool false) Try.underlying50 hi hz .i64 .i64 (n : Int) (n : Int) (by omega) (Int.le_refl _) (by rw [hb]; omega) (by omega)
  rw [Int.toNat_natCast, hs, Nat.mul_one] at h
  have e : madeCells #[.bool false] n = Array.replicate n (.bool false) := by
    apply Array.ext'
    rw [toList_madeCells_one]; simp
  simpa [Value.cells, e] using h
theorem bools_set8 (cs : List Bool) (i : Nat) (y : Bool) : (cs.map vBool).set i (.bool y) = (cs.set i y).map vBool := by rw [List.map_set]
theorem store_bool {P : Program} {o : Oper} {ty : TypeId} {x y : Operand} (ho : o.op = .store ty x y) {b : Act} {W : World} {g k : Nat} {v : Bool} {cs : List Value} {t : TypeId} (hp : b.eval x = .pointer (some ⟨g, k, none⟩)) (hr : b.eval y = .bool v)
    (hsz : (P.info? ty).map (·.size) = some 1) (hl : k < cs.length) (hh : Has W g t cs) : ∃ W', (execOp b.eval o).run P W = .ok .skip W' ∧ Has W' g t (cs.set k (.bool v)) ∧ But g W W' := by
  have hs := run_storeCells_at P g k t [.bool v] 0 cs.toArray W hh (by simp; omega) (by simp [Value.oneCell'])
  rw [Nat.add_zero] at hs
  have e : cs.set k (Value.bool v) = cs.take k ++ [Value.bool v] ++ cs.drop (k + 1) := by rw [List.set_eq_take_append_cons_drop, if_pos hl]; simp
  refine ⟨W.setRow g (cs.take k ++ [Value.bool v] ++ cs.drop (k + 1)).toArray, ?_, by rw [e]; exact setRow_heap W g _ _ t _ hh, ⟨rfl, rfl, rfl, by simp [World.setRow], fun k _ hk => setRow_other W g k _ (fun e => hk (by rw [e]))⟩⟩
  cases hq : P.info? ty with
  | none => simp [hq] at hsz
  | some i =>
    have hi : 1 = i.size := by simp [hq] at hsz; omega
    have hs' := hs
    simp only [List.length_singleton] at hs'
    unfold execOp
    simp [ho, hp, hr, Instr.storeAt, Instr.sureAddr, storeVar, sizeOf, typeInfo, hq, Value.cells, ← hi]
    have hs2 : Sem.run P (storeCells ⟨g, k, none⟩ [Value.bool v]) W = .ok () (W.setRow g (cs.take k ++ Value.bool v :: cs.drop (k + 1)).toArray) := by simpa using hs'
    rw [hs2]; rfl
/-- the given set, made to have what it must have, up to a work -/
def setOk (ws : List Wk) (t : Nat) (b : Int) (cs : List Bool) (i : Nat) : Prop := must28 ws t b (fun k => cs[k]? = some true) i → cs[i]? = some true
theorem setOk_set {ws : List Wk} {t i j : Nat} {b : Int} {cs : List Bool} {y : Bool} (h : setOk ws t b cs j) (hj : j < i) : setOk ws t b (cs.set i y) j := fun hm => by
  rw [List.getElem?_set_ne (by omega)]
  refine h ?_
  rcases hm with h1 | h1 | ⟨k, h1, h2, h3⟩
  · exact .inl h1
  · exact .inr (.inl h1)
  · exact .inr (.inr ⟨k, h1, by rwa [List.getElem?_set_ne (by omega)] at h2, h3⟩)
set_option maxRecDepth 100000 in
set_option maxHeartbeats 40000000 in
theorem leastP (NU : NetSays) (p span at_ k a : Int) (s : ByteArray) (A M : Option Addr) (n c m mc : Nat) (l : List Wk) (mine : List Bool) (w : World) (hn : n ≤ 9223372036854775807) (hw : RdW w w.heap.size A l) (hl : l.length = n) (hs : ∀ x ∈ l, x.word.size ≤ 9223372036854775807) (hs2 : s.size ≤ 9223372036854775807)
    (_ : m ≤ 9223372036854775807) (hmr : RdB w w.heap.size M mine) (hml : mine.length = m) :
    Calls Try.prog 6 #[.agg #[.int .i64 p, .int .i64 span, .slice A n c, .int .i64 at_, .int .i64 k, .int .i64 a, .string s], .slice M m mc] w fun e w' => e = .returned (.bool true) ∧ Below w.heap.size w w' := by
  have AWK := Lib.hid (fun W => awakeOf NU W)
  have HW := Lib.hid hw
  have HL := Lib.hid hl
  have HS := Lib.hid hs
  have HMR := Lib.hid hmr
  have HML := Lib.hid hml
  clear NU hw hl hs hmr hml
  have G0 : Has (w.alloc (.cells #[.int .i64 p, .int .i64 span, .slice A n c, .int .i64 at_, .int .i64 k, .int .i64 a, .string s] 49)) w.heap.size 49 [.int .i64 p, .int .i64 span, .slice A n c, .int .i64 at_, .int .i64 k, .int .i64 a, .string s] := Has.new rfl
  have B0 : Below w.heap.size w (w.alloc (.cells #[.int .i64 p, .int .i64 span, .slice A n c, .int .i64 at_, .int .i64 k, .int .i64 a, .string s] 49)) := by go_grown
  by_cases h1 : 100 < n
  · have h1' : (100 : Int) < (n : Int) := by omega
    go_enter Try.func6, Try.ntmps6
    go_wp2_with fail
    refine (AWK.out _).mono ?_
    rintro e w1 ⟨rfl, hb1⟩
    go_wp2
    go_ret
    exact ⟨rfl, bvia B0 hb1⟩
  have h1' : ¬ (100 : Int) < (n : Int) := by omega
  by_cases h2 : 100 < s.size
  · have h2' : (100 : Int) < (s.size : Int) := by omega
    go_enter Try.func6, Try.ntmps6
    go_wp2_with fail
    refine (AWK.out _).mono ?_
    rintro e w1 ⟨rfl, hb1⟩
    go_wp2
    go_ret
    exact ⟨rfl, bvia B0 hb1⟩
  have CS := Lib.hid (sheet15 p span A n c l _ hn (HW.out.up B0) HL.out HS.out)
  have h2' : ¬ (100 : Int) < (s.size : Int) := by omega
  go_enter Try.func6, Try.ntmps6
  go_upto_region 1 with (fail)
  have B0' := Lib.hid B0
  generalize hw0 : (w.alloc (.cells #[.int .i64 p, .int .i64 span, .slice A n c, .int .i64 at_, .int .i64 k, .int .i64 a, .string s] 49)) = w0 at *
  have hz0 : w0.heap.size = w.heap.size + 1 := by rw [← hw0]; simp
  have f0 := G0.cell 0
  have f1 := G0.cell 1
  have f2 := G0.cell 2
  have f6 := G0.cell 6
  have q0 := G0.lt
  have HG0 := Lib.hid G0
  clear hw0 G0 B0 h1 h2
  go_wp2_with fail
  refine CS.out.mono ?_
  rintro e w1 ⟨q, B, nb, cb, bad, rfl, hb1, hok⟩
  have B1 := Lib.hid (B0'.out.trans (hb1.mono (by omega)))
  have HG1 := Lib.hid (HG0.out.below hb1 HG0.out.lt)
  have HOK := Lib.hid hok
  clear CS f0 f1 f2 f6 q0 hok hb1 HG0 B0' h1' h2'
  by_cases hE : sheetE p span l = 0
  case neg =>
    have hne : (sheetE p span l != 0) = true := by simpa using hE
    clear hE
    generalize sheetE p span l = er at *
    go_wp2_with fail
    refine (AWK.out _).mono ?_
    rintro e w2 ⟨rfl, hb2⟩
    go_wp2
    go_ret
    exact ⟨rfl, B1.out.trans ((show Below w.heap.size w1 _ from (Below.refl _ _).alloc (by have := B1.out.size; omega) _).trans (hb2.mono (by have := B1.out.size; simp; omega)))⟩
  rw [hE]
  obtain ⟨rfl, rb, lb, hnb, hcb⟩ := HOK.out hE
  have OKS := sheet_ok hE
  obtain ⟨ws, hws⟩ : ∃ ws, ws = wksOf l := ⟨_, rfl⟩
  rw [← hws] at rb lb OKS
  have HE := Lib.hid hE
  clear hE HOK hws
  have HSP : Hid (spB q span = true) := (sheetE_zero HE.out).2.2.1
  go_upto_region 4 with (fail)
  have K0 : Has (w1.alloc (.cells #[.int .i64 q, .slice B nb cb] 24)) w1.heap.size 24 [.int .i64 q, .slice B nb cb] := Has.new rfl
  have B2 : Below w1.heap.size w1 (w1.alloc (.cells #[.int .i64 q, .slice B nb cb] 24)) := by go_grown
  have RB := Lib.hid (rb.up B2)
  have HOKS := Lib.hid OKS
  have HLB := Lib.hid lb
  have hn4 : nb ≤ 400 := by have := OKS.len; omega
  have HG2 := Lib.hid (HG1.out.below B2 HG1.out.lt)
  have B2' := Lib.hid (B1.out.trans (B2.mono B1.out.size))
  clear rb lb OKS B2 HG1
  generalize hw2 : (w1.alloc (.cells #[.int .i64 q, .slice B nb cb] 24)) = w2 at *
  obtain ⟨bs, hbs⟩ : ∃ bs, bs = w1.heap.size := ⟨_, rfl⟩
  simp only [← hbs]
  rw [← hbs] at K0
  clear hw2 hbs B1
  have s0 : w2.cell? ⟨bs, 0, none⟩ = some (.int .i64 q) := K0.cell 0
  have s1 : w2.cell? ⟨bs, 1, none⟩ = some (.slice B nb cb) := K0.cell 1
  have s2 : bs < w2.heap.size := K0.lt
  have HK2 := Lib.hid K0
  clear K0
  by_cases h60 : 60 < nb
  · have h60' : (60 : Int) < (nb : Int) := by omega
    go_wp2_with fail
    refine (AWK.out _).mono ?_
    rintro e w3 ⟨rfl, hb3⟩
    go_wp2
    go_ret
    exact ⟨rfl, B2'.out.trans (hb3.mono B2'.out.size)⟩
  have h60' : ¬ (60 : Int) < (nb : Int) := by omega
  have HS3 : Hid (∀ x ∈ ws, x.word.size ≤ 9223372036854775807) := fun x hx => by have := HOKS.out.short x hx; omega
  have CA := Lib.hid (AboveUn q at_ k a s B nb cb ws w2 (by omega) hnb hcb RB.out HLB.out HS3.out hs2)
  have f0 : w2.cell? ⟨w.heap.size, 0, none⟩ = some (.int .i64 q) := HG2.out.cell 0
  have f3 : w2.cell? ⟨w.heap.size, 3, none⟩ = some (.int .i64 at_) := HG2.out.cell 3
  have f4 : w2.cell? ⟨w.heap.size, 4, none⟩ = some (.int .i64 k) := HG2.out.cell 4
  have f5 : w2.cell? ⟨w.heap.size, 5, none⟩ = some (.int .i64 a) := HG2.out.cell 5
  have f6 : w2.cell? ⟨w.heap.size, 6, none⟩ = some (.string s) := HG2.out.cell 6
  have q0 : w.heap.size < w2.heap.size := HG2.out.lt
  clear h60
  go_wp2_with fail
  refine CA.out.mono ?_
  rintro e w3 ⟨A8, n8, c8, rfl, r8, l8, hn8, hc8, hb3⟩
  have HR8 := Lib.hid r8
  have HL8 := Lib.hid l8
  have B3 := Lib.hid (B2'.out.trans (hb3.mono B2'.out.size))
  have HG3 := Lib.hid (HG2.out.below hb3 HG2.out.lt)
  have HK3 := Lib.hid (HK2.out.below hb3 HK2.out.lt)
  have RB3 := Lib.hid (RB.out.up hb3)
  clear CA r8 l8 hb3 f0 f3 f4 f5 f6 q0 s0 s1 s2 HG2 HK2 RB B2'
  by_cases hE : askE q ws at_ ⟨k, a, s⟩ = 0
  case neg =>
    have hne : (askE q ws at_ ⟨k, a, s⟩ != 0) = true := by simpa using hE
    clear hE
    generalize askE q ws at_ ⟨k, a, s⟩ = er at *
    go_wp2_with fail
    refine (AWK.out _).mono ?_
    rintro e w4 ⟨rfl, hb4⟩
    go_wp2
    go_ret
    exact ⟨rfl, bvia B3.out hb4⟩
  rw [hE]
  obtain ⟨z1, z2, z3, z4⟩ := askE_zero hE
  have V2 := schk_zero z4
  have b1 := valid_at V2 ⟨k, a, s⟩ (by simp)
  rw [HLB.out] at z3
  obtain ⟨t, rfl⟩ := Int.eq_ofNat_of_zero_le z2
  obtain ⟨b, rfl⟩ := Int.eq_ofNat_of_zero_le b1.1
  have hb22 : (b : Int) ≤ 22 := b1.2
  have htn : t < nb := by omega
  have eL : abvL q ws (t : Int) ⟨k, (b : Int), s⟩ = (abU ws t b nb).map (fun (j : Nat) => (j : Int)) := by
    unfold abvL; rw [if_pos hE, HLB.out, Int.toNat_natCast]
  rw [eL] at HR8 HL8
  have HPE : Hid (plE q span ws (t : Int) ⟨k, (b : Int), s⟩ = 0) := (plE_ok hE).trans (if_pos HSP.out)
  have HPL : Hid (plL ws (t : Int) ⟨k, (b : Int), s⟩ = abU ws t b nb) := by show _ = _; unfold plL; rw [HLB.out, Int.toNat_natCast]
  have HZ4 := Lib.hid z4
  have HV2 := Lib.hid V2
  have hnl : (abU ws t b nb).length = n8 := by have := HL8.out; rwa [List.length_map] at this
  have HHL := Lib.hid hnl
  have hn8' : n8 ≤ 400 := by have := abU_len ws t b nb (by omega); omega
  have hn8p : 0 < n8 := by rw [← hnl]; exact abU_pos _ _ _ _
  clear hE z1 z2 z3 z4 b1 V2 eL hnl HL8
  have htL : Hid (decide ((t : Int) ∈ (abU ws t b nb).map (fun (j : Nat) => (j : Int))) = true) := decide_eq_true (List.mem_map.2 ⟨t, (abU_mem' (by omega)).2 (.inl rfl), rfl⟩)
  obtain ⟨L, hL⟩ : ∃ L, L = abU ws t b nb := ⟨_, rfl⟩
  rw [← hL] at HR8 HPL HHL htL
  have HLE := Lib.hid hL
  clear hL
  have ht0 : ¬ (t : Int) < 0 := by omega
  have htn2 : ¬ (nb : Int) ≤ (t : Int) := by omega
  have f0 : w3.cell? ⟨w.heap.size, 0, none⟩ = some (.int .i64 q) := HG3.out.cell 0
  have f3 : w3.cell? ⟨w.heap.size, 3, none⟩ = some (.int .i64 (t : Int)) := HG3.out.cell 3
  have f4 : w3.cell? ⟨w.heap.size, 4, none⟩ = some (.int .i64 k) := HG3.out.cell 4
  have f5 : w3.cell? ⟨w.heap.size, 5, none⟩ = some (.int .i64 (b : Int)) := HG3.out.cell 5
  have f6 : w3.cell? ⟨w.heap.size, 6, none⟩ = some (.string s) := HG3.out.cell 6
  have q0 : w.heap.size < w3.heap.size := HG3.out.lt
  have s0 : w3.cell? ⟨bs, 0, none⟩ = some (.int .i64 q) := HK3.out.cell 0
  have s1 : w3.cell? ⟨bs, 1, none⟩ = some (.slice B nb cb) := HK3.out.cell 1
  have s2 : bs < w3.heap.size := HK3.out.lt
  have N4 : Has (w3.alloc (.cells (wksCells [⟨k, (b : Int), s⟩]).toArray 26)) w3.heap.size 26 (wksCells [⟨k, (b : Int), s⟩]) := Has.new rfl
  have CC := Lib.hid (check04 q (some ⟨w3.heap.size, 0, none⟩) 1 1 [⟨k, (b : Int), s⟩] _ (by decide) (has_rdW N4) rfl (by intro x hx; rw [List.mem_singleton] at hx; subst hx; exact hs2))
  have B4 : Below w3.heap.size w3 (w3.alloc (.cells (wksCells [⟨k, (b : Int), s⟩]).toArray 26)) := by go_grown
  go_wp2_with fail
  refine CC.out.mono ?_
  rintro e w5 ⟨rfl, hb5⟩
  rw [HZ4.out]
  have B5 : Below w3.heap.size w3 w5 := bvia B4 hb5
  have CI := Lib.hid (in28 A8 n8 c8 (L.map (fun (j : Nat) => (j : Int))) (t : Int) w5 (by omega) (HR8.out.up B5) (by rw [List.length_map, HHL.out]))
  have s5 : w5.cell? ⟨bs, 1, none⟩ = some (.slice B nb cb) := (HK3.out.below B5 HK3.out.lt).cell 1
  have s6 : bs < w5.heap.size := (HK3.out.below B5 HK3.out.lt).lt
  have f7 : w5.cell? ⟨w.heap.size, 3, none⟩ = some (.int .i64 (t : Int)) := (HG3.out.below B5 HG3.out.lt).cell 3
  have f8 : w.heap.size < w5.heap.size := (HG3.out.below B5 HG3.out.lt).lt
  clear CC N4 B4 hb5 f0 f3 f4 f5 f6 q0 s0 s1 s2
  go_wp2_with fail
  refine CI.out.mono ?_
  rintro e w6 ⟨rfl, rfl⟩
  rw [htL.out]
  have MK := fun W => mkB28 nb (by omega) W
  have HG5 := Lib.hid (HG3.out.below B5 HG3.out.lt)
  have HK5 := Lib.hid (HK3.out.below B5 HK3.out.lt)
  have RB5 := Lib.hid (RB3.out.up B5)
  have HR5 := Lib.hid (HR8.out.up B5)
  have BB5 := Lib.hid (B3.out.trans (B5.mono B3.out.size))
  have HM5 := Lib.hid (HMR.out.up BB5.out)
  clear CI B5 HG3 HK3 RB3 HR8 B3 htL
  have HF : Hid (∀ Z : World, Below w5.heap.size w5 Z → Has Z w.heap.size 49 [.int .i64 q, .int .i64 span, .slice A n c, .int .i64 (t : Int), .int .i64 k, .int .i64 (b : Int), .string s] ∧ Has Z bs 24 [.int .i64 q, .slice B nb cb] ∧ RdW Z Z.heap.size B ws ∧ RdI Z Z.heap.size A8 (L.map (fun (j : Nat) => (j : Int))) ∧ RdB Z Z.heap.size M mine) := fun Z hZ => ⟨HG5.out.below hZ HG5.out.lt, HK5.out.below hZ HK5.out.lt, RB5.out.up hZ, HR5.out.up hZ, HM5.out.up hZ⟩
  have hatW : Hid (∀ (i : Nat) (x : Wk), ws[i]? = some x → 0 ≤ x.at_ ∧ x.at_ ≤ 22) := fun i x hx => valid_at HOKS.out x (mem_of_get hx)
  have CT := Lib.hid (fun (k1 a1 k2 a2 : Int) (s1 s2 : ByteArray) (W : World) (h1 : 0 ≤ a1 ∧ a1 ≤ 22) (h2 : 0 ≤ a2 ∧ a2 ≤ 22) => touch04 k1 a1 k2 a2 s1 s2 W (by omega) (by omega) (by omega) (by omega))
  go_wp2_with fail
  have K0 : Has (w5.alloc (.cells (Array.replicate nb (.bool false)) 4)) w5.heap.size 4 ((List.replicate nb false).map vBool) := Has.new (by simp)
  have B6 : Below w5.heap.size w5 (w5.alloc (.cells (Array.replicate nb (.bool false)) 4)) := by go_grown
  clear s5 s6 f7 f8 MK HG5 HK5 RB5 HR5 HM5
  go_loopw [10] (fun iv wr => ∃ (i : Nat) (cs : List Bool), i ≤ nb ∧ iv = .int .i64 (i : Int) ∧ Hid (cs.length = nb) ∧ Hid (Has wr w5.heap.size 4 (cs.map vBool)) ∧ Hid (∀ j, j < i → setOk ws t b cs j) ∧ Hid (Below w5.heap.size w5 wr)) (fun i _ => nb - (intOf i).toNat)
  case atStart => exact ⟨0, List.replicate nb false, Nat.zero_le _, rfl, List.length_replicate, K0, fun j hj => absurd hj (by omega), B6⟩
  case round =>
    clear K0 B6
    obtain ⟨i, cs, hi, rfl, HCL, HC, HSO, HB⟩ := hrel
    obtain ⟨wo, rfl⟩ : ∃ wo : World, wo = wr := ⟨_, rfl⟩
    by_cases hlt : i < nb
    · have jn : (i : Int) < (nb : Int) := by omega
      obtain ⟨x, hx⟩ := get_of_lt (l := ws) (k := i) (by rw [HLB.out]; exact hlt)
      obtain ⟨yi, hyi⟩ := get_of_lt (l := cs) (k := i) (by rw [HCL.out]; exact hlt)
      have HX := Lib.hid hx
      have HYI := Lib.hid hyi
      have HXA := Lib.hid (hatW.out i x hx)
      clear hx hyi
      obtain ⟨bx, ox, hBx, _⟩ := (HF.out wo HB.out).2.2.1 i x HX.out
      subst hBx
      have HXC : Hid (∀ Z : World, Below w5.heap.size w5 Z → bx < Z.heap.size ∧ Z.cell? ⟨bx, ox + i * 3, none⟩ = some (.int .i64 x.kind) ∧ Z.cell? ⟨bx, ox + i * 3 + 1, none⟩ = some (.int .i64 x.at_) ∧ Z.cell? ⟨bx, ox + i * 3 + 2, none⟩ = some (.string x.word)) := fun Z hZ => by
        obtain ⟨b9, o9, e9, u9, u0, u1, u2⟩ := (HF.out Z hZ).2.2.1 i x HX.out
        injection e9 with e9; injection e9 with e1 e2
        subst e1 e2
        exact ⟨u9, u0, u1, u2⟩
      go_upto_region 15 with (fail)
      go_cut [10] from 94 to 165 (fun v wx => v = .int .i64 (i : Int) ∧ ∃ y, Hid (Has wx w5.heap.size 4 ((cs.set i y).map vBool)) ∧ Hid ((i = t ∨ (t < i ∧ touch x.at_ (b : Int) = true)) → y = true) ∧ Hid (Below w5.heap.size w5 wx))
      case first =>
        by_cases hmi : i < m
        · have gm : decide ((i : Int) < (m : Int)) = true := decide_eq_true (by omega)
          have gm2 : (i : Int) < (m : Int) := by omega
          obtain ⟨y0, hy0⟩ := get_of_lt (l := mine) (k := i) (by rw [HML.out]; exact hmi)
          have HY0 := Lib.hid hy0
          clear hy0
          obtain ⟨bm, om, hMm, _⟩ := (HF.out wo HB.out).2.2.2.2 i y0 HY0.out
          subst hMm
          have HMC : Hid (∀ Z : World, Below w5.heap.size w5 Z → bm < Z.heap.size ∧ Z.cell? ⟨bm, om + i, none⟩ = some (.bool y0)) := fun Z hZ => by
            obtain ⟨b9, o9, e9, u9, u0⟩ := (HF.out Z hZ).2.2.2.2 i y0 HY0.out
            injection e9 with e9; injection e9 with e1 e2
            subst e1 e2
            exact ⟨u9, u0⟩
          cases y0 with
          | true =>
            refine wp_region_store [.q, .q, .q, .q, .q, .q, .q, .q, .q, .q, .q, .q, .q, .q, .q, .q, .q, .q, .q, .q, .q, .q, .q, .q, .q, .q, .q, .q, .q, .q, .q, .q, .q, .q, .q, .st 0] 35 12 ?aH4 (fun W => Below wo.heap.size wo W) (fun W => Has W w5.heap.size 4 ((cs.set i (true)).map vBool) ∧ Below w5.heap.size w5 W) (by kernel_rfl) (by kernel_rfl) (Below.refl _ _).drew (fun W W' h hb => h.trans (hb.mono h.size)) ?hq4 ?hS4 ?he4
            case hq4 =>
              intro w7 h7
              have hz7 : wo.heap.size ≤ w7.heap.size := h7.size
              obtain ⟨G7, K7, R7, I7, M7⟩ := HF.out w7 (HB.out.trans (h7.mono HB.out.size))
              have f3 : w7.cell? ⟨w.heap.size, 3, none⟩ = some (.int .i64 (t : Int)) := G7.cell 3
              have f4 : w7.cell? ⟨w.heap.size, 4, none⟩ = some (.int .i64 k) := G7.cell 4
              have f5 : w7.cell? ⟨w.heap.size, 5, none⟩ = some (.int .i64 (b : Int)) := G7.cell 5
              have f6 : w7.cell? ⟨w.heap.size, 6, none⟩ = some (.string s) := G7.cell 6
              have f9 := G7.lt
              have s1 : w7.cell? ⟨bs, 1, none⟩ = some (.slice (some ⟨bx, ox, none⟩) nb cb) := K7.cell 1
              have s2 := K7.lt
              obtain ⟨hbx, x0, x1, x2⟩ := HXC.out w7 (HB.out.trans (h7.mono HB.out.size))
              have hc1 : w7.cell? ⟨w5.heap.size, i, none⟩ = some (.bool yi) := ((HC.out.below h7 HC.out.lt).cell i).trans (by rw [List.getElem?_map, HYI.out]; rfl)
              have hc2 := (HC.out.below h7 HC.out.lt).lt
              obtain ⟨hbm, m0⟩ := HMC.out w7 (HB.out.trans (h7.mono HB.out.size))
              have hxc := fun (x : Ext w7) => x.cell
              have CTx := Lib.hid (fun W => CT.out x.kind x.at_ k (b : Int) x.word s W HXA.out (by omega))
              clear h7 G7 K7 R7 I7 M7
              simp only [quietsOf]
              repeat (go_big_quiet_step ((go_at_call 20; exact ext_call (CTx.out _))))
              refine wpQuiet_nil ?_
              rfl
            case hS4 =>
              intro o ho W h
              have hop : o.op = .store 4 (.tmp 134) (.tmp 133) := by rw [← Option.some.inj ho]
              obtain ⟨W', h1, h2, h3⟩ := store_bool (P := Try.prog) (x := .tmp 134) (y := .tmp 133) (v := true) (ty := 4) (g := w5.heap.size) (k := i) (cs := cs.map vBool) hop (b := ?aH4) (W := W) rfl rfl (by kernel_rfl) (by rw [List.length_map, HCL.out]; exact hlt) (HC.out.below h HC.out.lt)
              refine ⟨W', h1, by rw [← bools_set8]; exact h2, ?_⟩
              have hW := HB.out.trans (h.mono HB.out.size)
              exact hW.trans (But.below h3 (Nat.le_refl _) hW.size)
            case he4 =>
              intro W hW
              go_wp2
              go_meet
              case rel => exact ⟨rfl, true, Lib.hid hW.1, Lib.hid (fun _ => rfl), Lib.hid hW.2⟩
          | false =>
            by_cases hit : i = t
            · have ge : ((i : Int) == (t : Int)) = true := by subst hit; simp
              clear hit
              refine wp_region_store [.q, .q, .q, .q, .q, .q, .q, .q, .q, .q, .q, .q, .q, .q, .q, .q, .q, .q, .q, .q, .q, .q, .q, .q, .q, .q, .q, .q, .q, .q, .q, .q, .q, .q, .q, .st 0] 35 12 ?aH5 (fun W => Below wo.heap.size wo W) (fun W => Has W w5.heap.size 4 ((cs.set i (true)).map vBool) ∧ Below w5.heap.size w5 W) (by kernel_rfl) (by kernel_rfl) (Below.refl _ _).drew (fun W W' h hb => h.trans (hb.mono h.size)) ?hq5 ?hS5 ?he5
              case hq5 =>
                intro w7 h7
                have hz7 : wo.heap.size ≤ w7.heap.size := h7.size
                obtain ⟨G7, K7, R7, I7, M7⟩ := HF.out w7 (HB.out.trans (h7.mono HB.out.size))
                have f3 : w7.cell? ⟨w.heap.size, 3, none⟩ = some (.int .i64 (t : Int)) := G7.cell 3
                have f4 : w7.cell? ⟨w.heap.size, 4, none⟩ = some (.int .i64 k) := G7.cell 4
                have f5 : w7.cell? ⟨w.heap.size, 5, none⟩ = some (.int .i64 (b : Int)) := G7.cell 5
                have f6 : w7.cell? ⟨w.heap.size, 6, none⟩ = some (.string s) := G7.cell 6
                have f9 := G7.lt
                have s1 : w7.cell? ⟨bs, 1, none⟩ = some (.slice (some ⟨bx, ox, none⟩) nb cb) := K7.cell 1
                have s2 := K7.lt
                obtain ⟨hbx, x0, x1, x2⟩ := HXC.out w7 (HB.out.trans (h7.mono HB.out.size))
                have hc1 : w7.cell? ⟨w5.heap.size, i, none⟩ = some (.bool yi) := ((HC.out.below h7 HC.out.lt).cell i).trans (by rw [List.getElem?_map, HYI.out]; rfl)
                have hc2 := (HC.out.below h7 HC.out.lt).lt
                obtain ⟨hbm, m0⟩ := HMC.out w7 (HB.out.trans (h7.mono HB.out.size))
                have hxc := fun (x : Ext w7) => x.cell
                have CTx := Lib.hid (fun W => CT.out x.kind x.at_ k (b : Int) x.word s W HXA.out (by omega))
                clear h7 G7 K7 R7 I7 M7
                simp only [quietsOf]
                repeat (go_big_quiet_step ((go_at_call 20; exact ext_call (CTx.out _))))
                refine wpQuiet_nil ?_
                rfl
              case hS5 =>
                intro o ho W h
                have hop : o.op = .store 4 (.tmp 134) (.tmp 133) := by rw [← Option.some.inj ho]
                obtain ⟨W', h1, h2, h3⟩ := store_bool (P := Try.prog) (x := .tmp 134) (y := .tmp 133) (v := true) (ty := 4) (g := w5.heap.size) (k := i) (cs := cs.map vBool) hop (b := ?aH5) (W := W) rfl rfl (by kernel_rfl) (by rw [List.length_map, HCL.out]; exact hlt) (HC.out.below h HC.out.lt)
                refine ⟨W', h1, by rw [← bools_set8]; exact h2, ?_⟩
                have hW := HB.out.trans (h.mono HB.out.size)
                exact hW.trans (But.below h3 (Nat.le_refl _) hW.size)
              case he5 =>
                intro W hW
                go_wp2
                go_meet
                case rel => exact ⟨rfl, true, Lib.hid hW.1, Lib.hid (fun _ => rfl), Lib.hid hW.2⟩
            · have ge : ((i : Int) == (t : Int)) = false := by simp; omega
              have HIT := Lib.hid hit
              by_cases hti : t < i
              · have gt : decide ((t : Int) < (i : Int)) = true := decide_eq_true (by omega)
                have gt2 : decide (t < i) = true := decide_eq_true hti
                have gt3 : (t : Int) < (i : Int) := by omega
                refine wp_region_store [.q, .q, .q, .q, .q, .q, .q, .q, .q, .q, .q, .q, .q, .q, .q, .q, .q, .q, .q, .q, .q, .q, .q, .q, .q, .q, .q, .q, .q, .q, .q, .q, .q, .q, .q, .st 0] 35 12 ?aH6 (fun W => Below wo.heap.size wo W) (fun W => Has W w5.heap.size 4 ((cs.set i ((touch x.at_ (b : Int)))).map vBool) ∧ Below w5.heap.size w5 W) (by kernel_rfl) (by kernel_rfl) (Below.refl _ _).drew (fun W W' h hb => h.trans (hb.mono h.size)) ?hq6 ?hS6 ?he6
                case hq6 =>
                  intro w7 h7
                  have hz7 : wo.heap.size ≤ w7.heap.size := h7.size
                  obtain ⟨G7, K7, R7, I7, M7⟩ := HF.out w7 (HB.out.trans (h7.mono HB.out.size))
                  have f3 : w7.cell? ⟨w.heap.size, 3, none⟩ = some (.int .i64 (t : Int)) := G7.cell 3
                  have f4 : w7.cell? ⟨w.heap.size, 4, none⟩ = some (.int .i64 k) := G7.cell 4
                  have f5 : w7.cell? ⟨w.heap.size, 5, none⟩ = some (.int .i64 (b : Int)) := G7.cell 5
                  have f6 : w7.cell? ⟨w.heap.size, 6, none⟩ = some (.string s) := G7.cell 6
                  have f9 := G7.lt
                  have s1 : w7.cell? ⟨bs, 1, none⟩ = some (.slice (some ⟨bx, ox, none⟩) nb cb) := K7.cell 1
                  have s2 := K7.lt
                  obtain ⟨hbx, x0, x1, x2⟩ := HXC.out w7 (HB.out.trans (h7.mono HB.out.size))
                  have hc1 : w7.cell? ⟨w5.heap.size, i, none⟩ = some (.bool yi) := ((HC.out.below h7 HC.out.lt).cell i).trans (by rw [List.getElem?_map, HYI.out]; rfl)
                  have hc2 := (HC.out.below h7 HC.out.lt).lt
                  obtain ⟨hbm, m0⟩ := HMC.out w7 (HB.out.trans (h7.mono HB.out.size))
                  have hxc := fun (x : Ext w7) => x.cell
                  have CTx := Lib.hid (fun W => CT.out x.kind x.at_ k (b : Int) x.word s W HXA.out (by omega))
                  clear h7 G7 K7 R7 I7 M7
                  simp only [quietsOf]
                  repeat (go_big_quiet_step ((go_at_call 20; exact ext_call (CTx.out _))))
                  refine wpQuiet_nil ?_
                  rfl
                case hS6 =>
                  intro o ho W h
                  have hop : o.op = .store 4 (.tmp 134) (.tmp 133) := by rw [← Option.some.inj ho]
                  obtain ⟨W', h1, h2, h3⟩ := store_bool (P := Try.prog) (x := .tmp 134) (y := .tmp 133) (v := (touch x.at_ (b : Int))) (ty := 4) (g := w5.heap.size) (k := i) (cs := cs.map vBool) hop (b := ?aH6) (W := W) rfl rfl (by kernel_rfl) (by rw [List.length_map, HCL.out]; exact hlt) (HC.out.below h HC.out.lt)
                  refine ⟨W', h1, by rw [← bools_set8]; exact h2, ?_⟩
                  have hW := HB.out.trans (h.mono HB.out.size)
                  exact hW.trans (But.below h3 (Nat.le_refl _) hW.size)
                case he6 =>
                  intro W hW
                  go_wp2
                  go_meet
                  case rel => exact ⟨rfl, (touch x.at_ (b : Int)), Lib.hid hW.1, Lib.hid (fun h => h.elim (fun h => absurd h HIT.out) (fun h => h.2)), Lib.hid hW.2⟩
              · have gt : decide ((t : Int) < (i : Int)) = false := decide_eq_false (by omega)
                have gt2 : decide (t < i) = false := decide_eq_false hti
                have gt3 : ¬ (t : Int) < (i : Int) := by omega
                have HTI := Lib.hid hti
                refine wp_region_store [.q, .q, .q, .q, .q, .q, .q, .q, .q, .q, .q, .q, .q, .q, .q, .q, .q, .q, .q, .q, .q, .q, .q, .q, .q, .q, .q, .q, .q, .q, .q, .q, .q, .q, .q, .st 0] 35 12 ?aH7 (fun W => Below wo.heap.size wo W) (fun W => Has W w5.heap.size 4 ((cs.set i (false)).map vBool) ∧ Below w5.heap.size w5 W) (by kernel_rfl) (by kernel_rfl) (Below.refl _ _).drew (fun W W' h hb => h.trans (hb.mono h.size)) ?hq7 ?hS7 ?he7
                case hq7 =>
                  intro w7 h7
                  have hz7 : wo.heap.size ≤ w7.heap.size := h7.size
                  obtain ⟨G7, K7, R7, I7, M7⟩ := HF.out w7 (HB.out.trans (h7.mono HB.out.size))
                  have f3 : w7.cell? ⟨w.heap.size, 3, none⟩ = some (.int .i64 (t : Int)) := G7.cell 3
                  have f4 : w7.cell? ⟨w.heap.size, 4, none⟩ = some (.int .i64 k) := G7.cell 4
                  have f5 : w7.cell? ⟨w.heap.size, 5, none⟩ = some (.int .i64 (b : Int)) := G7.cell 5
                  have f6 : w7.cell? ⟨w.heap.size, 6, none⟩ = some (.string s) := G7.cell 6
                  have f9 := G7.lt
                  have s1 : w7.cell? ⟨bs, 1, none⟩ = some (.slice (some ⟨bx, ox, none⟩) nb cb) := K7.cell 1
                  have s2 := K7.lt
                  obtain ⟨hbx, x0, x1, x2⟩ := HXC.out w7 (HB.out.trans (h7.mono HB.out.size))
                  have hc1 : w7.cell? ⟨w5.heap.size, i, none⟩ = some (.bool yi) := ((HC.out.below h7 HC.out.lt).cell i).trans (by rw [List.getElem?_map, HYI.out]; rfl)
                  have hc2 := (HC.out.below h7 HC.out.lt).lt
                  obtain ⟨hbm, m0⟩ := HMC.out w7 (HB.out.trans (h7.mono HB.out.size))
                  have hxc := fun (x : Ext w7) => x.cell
                  have CTx := Lib.hid (fun W => CT.out x.kind x.at_ k (b : Int) x.word s W HXA.out (by omega))
                  clear h7 G7 K7 R7 I7 M7
                  simp only [quietsOf]
                  repeat (go_big_quiet_step ((go_at_call 20; exact ext_call (CTx.out _))))
                  refine wpQuiet_nil ?_
                  rfl
                case hS7 =>
                  intro o ho W h
                  have hop : o.op = .store 4 (.tmp 134) (.tmp 133) := by rw [← Option.some.inj ho]
                  obtain ⟨W', h1, h2, h3⟩ := store_bool (P := Try.prog) (x := .tmp 134) (y := .tmp 133) (v := false) (ty := 4) (g := w5.heap.size) (k := i) (cs := cs.map vBool) hop (b := ?aH7) (W := W) rfl rfl (by kernel_rfl) (by rw [List.length_map, HCL.out]; exact hlt) (HC.out.below h HC.out.lt)
                  refine ⟨W', h1, by rw [← bools_set8]; exact h2, ?_⟩
                  have hW := HB.out.trans (h.mono HB.out.size)
                  exact hW.trans (But.below h3 (Nat.le_refl _) hW.size)
                case he7 =>
                  intro W hW
                  go_wp2
                  go_meet
                  case rel => exact ⟨rfl, false, Lib.hid hW.1, Lib.hid (fun h => h.elim (fun h => absurd h HIT.out) (fun h => absurd h.1 HTI.out)), Lib.hid hW.2⟩
        · have gm : decide ((i : Int) < (m : Int)) = false := decide_eq_false (by omega)
          have gm2 : ¬ (i : Int) < (m : Int) := by omega
          by_cases hit : i = t
          · have ge : ((i : Int) == (t : Int)) = true := by subst hit; simp
            clear hit
            refine wp_region_store [.q, .q, .q, .q, .q, .q, .q, .q, .q, .q, .q, .q, .q, .q, .q, .q, .q, .q, .q, .q, .q, .q, .q, .q, .q, .q, .q, .q, .q, .q, .q, .q, .q, .q, .q, .st 0] 35 12 ?aH8 (fun W => Below wo.heap.size wo W) (fun W => Has W w5.heap.size 4 ((cs.set i (true)).map vBool) ∧ Below w5.heap.size w5 W) (by kernel_rfl) (by kernel_rfl) (Below.refl _ _).drew (fun W W' h hb => h.trans (hb.mono h.size)) ?hq8 ?hS8 ?he8
            case hq8 =>
              intro w7 h7
              have hz7 : wo.heap.size ≤ w7.heap.size := h7.size
              obtain ⟨G7, K7, R7, I7, M7⟩ := HF.out w7 (HB.out.trans (h7.mono HB.out.size))
              have f3 : w7.cell? ⟨w.heap.size, 3, none⟩ = some (.int .i64 (t : Int)) := G7.cell 3
              have f4 : w7.cell? ⟨w.heap.size, 4, none⟩ = some (.int .i64 k) := G7.cell 4
              have f5 : w7.cell? ⟨w.heap.size, 5, none⟩ = some (.int .i64 (b : Int)) := G7.cell 5
              have f6 : w7.cell? ⟨w.heap.size, 6, none⟩ = some (.string s) := G7.cell 6
              have f9 := G7.lt
              have s1 : w7.cell? ⟨bs, 1, none⟩ = some (.slice (some ⟨bx, ox, none⟩) nb cb) := K7.cell 1
              have s2 := K7.lt
              obtain ⟨hbx, x0, x1, x2⟩ := HXC.out w7 (HB.out.trans (h7.mono HB.out.size))
              have hc1 : w7.cell? ⟨w5.heap.size, i, none⟩ = some (.bool yi) := ((HC.out.below h7 HC.out.lt).cell i).trans (by rw [List.getElem?_map, HYI.out]; rfl)
              have hc2 := (HC.out.below h7 HC.out.lt).lt
              have hxc := fun (x : Ext w7) => x.cell
              have CTx := Lib.hid (fun W => CT.out x.kind x.at_ k (b : Int) x.word s W HXA.out (by omega))
              clear h7 G7 K7 R7 I7 M7
              simp only [quietsOf]
              repeat (go_big_quiet_step ((go_at_call 20; exact ext_call (CTx.out _))))
              refine wpQuiet_nil ?_
              rfl
            case hS8 =>
              intro o ho W h
              have hop : o.op = .store 4 (.tmp 134) (.tmp 133) := by rw [← Option.some.inj ho]
              obtain ⟨W', h1, h2, h3⟩ := store_bool (P := Try.prog) (x := .tmp 134) (y := .tmp 133) (v := true) (ty := 4) (g := w5.heap.size) (k := i) (cs := cs.map vBool) hop (b := ?aH8) (W := W) rfl rfl (by kernel_rfl) (by rw [List.length_map, HCL.out]; exact hlt) (HC.out.below h HC.out.lt)
              refine ⟨W', h1, by rw [← bools_set8]; exact h2, ?_⟩
              have hW := HB.out.trans (h.mono HB.out.size)
              exact hW.trans (But.below h3 (Nat.le_refl _) hW.size)
            case he8 =>
              intro W hW
              go_wp2
              go_meet
              case rel => exact ⟨rfl, true, Lib.hid hW.1, Lib.hid (fun _ => rfl), Lib.hid hW.2⟩
          · have ge : ((i : Int) == (t : Int)) = false := by simp; omega
            have HIT := Lib.hid hit
            by_cases hti : t < i
            · have gt : decide ((t : Int) < (i : Int)) = true := decide_eq_true (by omega)
              have gt2 : decide (t < i) = true := decide_eq_true hti
              have gt3 : (t : Int) < (i : Int) := by omega
              refine wp_region_store [.q, .q, .q, .q, .q, .q, .q, .q, .q, .q, .q, .q, .q, .q, .q, .q, .q, .q, .q, .q, .q, .q, .q, .q, .q, .q, .q, .q, .q, .q, .q, .q, .q, .q, .q, .st 0] 35 12 ?aH9 (fun W => Below wo.heap.size wo W) (fun W => Has W w5.heap.size 4 ((cs.set i ((touch x.at_ (b : Int)))).map vBool) ∧ Below w5.heap.size w5 W) (by kernel_rfl) (by kernel_rfl) (Below.refl _ _).drew (fun W W' h hb => h.trans (hb.mono h.size)) ?hq9 ?hS9 ?he9
              case hq9 =>
                intro w7 h7
                have hz7 : wo.heap.size ≤ w7.heap.size := h7.size
                obtain ⟨G7, K7, R7, I7, M7⟩ := HF.out w7 (HB.out.trans (h7.mono HB.out.size))
                have f3 : w7.cell? ⟨w.heap.size, 3, none⟩ = some (.int .i64 (t : Int)) := G7.cell 3
                have f4 : w7.cell? ⟨w.heap.size, 4, none⟩ = some (.int .i64 k) := G7.cell 4
                have f5 : w7.cell? ⟨w.heap.size, 5, none⟩ = some (.int .i64 (b : Int)) := G7.cell 5
                have f6 : w7.cell? ⟨w.heap.size, 6, none⟩ = some (.string s) := G7.cell 6
                have f9 := G7.lt
                have s1 : w7.cell? ⟨bs, 1, none⟩ = some (.slice (some ⟨bx, ox, none⟩) nb cb) := K7.cell 1
                have s2 := K7.lt
                obtain ⟨hbx, x0, x1, x2⟩ := HXC.out w7 (HB.out.trans (h7.mono HB.out.size))
                have hc1 : w7.cell? ⟨w5.heap.size, i, none⟩ = some (.bool yi) := ((HC.out.below h7 HC.out.lt).cell i).trans (by rw [List.getElem?_map, HYI.out]; rfl)
                have hc2 := (HC.out.below h7 HC.out.lt).lt
                have hxc := fun (x : Ext w7) => x.cell
                have CTx := Lib.hid (fun W => CT.out x.kind x.at_ k (b : Int) x.word s W HXA.out (by omega))
                clear h7 G7 K7 R7 I7 M7
                simp only [quietsOf]
                repeat (go_big_quiet_step ((go_at_call 20; exact ext_call (CTx.out _))))
                refine wpQuiet_nil ?_
                rfl
              case hS9 =>
                intro o ho W h
                have hop : o.op = .store 4 (.tmp 134) (.tmp 133) := by rw [← Option.some.inj ho]
                obtain ⟨W', h1, h2, h3⟩ := store_bool (P := Try.prog) (x := .tmp 134) (y := .tmp 133) (v := (touch x.at_ (b : Int))) (ty := 4) (g := w5.heap.size) (k := i) (cs := cs.map vBool) hop (b := ?aH9) (W := W) rfl rfl (by kernel_rfl) (by rw [List.length_map, HCL.out]; exact hlt) (HC.out.below h HC.out.lt)
                refine ⟨W', h1, by rw [← bools_set8]; exact h2, ?_⟩
                have hW := HB.out.trans (h.mono HB.out.size)
                exact hW.trans (But.below h3 (Nat.le_refl _) hW.size)
              case he9 =>
                intro W hW
                go_wp2
                go_meet
                case rel => exact ⟨rfl, (touch x.at_ (b : Int)), Lib.hid hW.1, Lib.hid (fun h => h.elim (fun h => absurd h HIT.out) (fun h => h.2)), Lib.hid hW.2⟩
            · have gt : decide ((t : Int) < (i : Int)) = false := decide_eq_false (by omega)
              have gt2 : decide (t < i) = false := decide_eq_false hti
              have gt3 : ¬ (t : Int) < (i : Int) := by omega
              have HTI := Lib.hid hti
              refine wp_region_store [.q, .q, .q, .q, .q, .q, .q, .q, .q, .q, .q, .q, .q, .q, .q, .q, .q, .q, .q, .q, .q, .q, .q, .q, .q, .q, .q, .q, .q, .q, .q, .q, .q, .q, .q, .st 0] 35 12 ?aH10 (fun W => Below wo.heap.size wo W) (fun W => Has W w5.heap.size 4 ((cs.set i (false)).map vBool) ∧ Below w5.heap.size w5 W) (by kernel_rfl) (by kernel_rfl) (Below.refl _ _).drew (fun W W' h hb => h.trans (hb.mono h.size)) ?hq10 ?hS10 ?he10
              case hq10 =>
                intro w7 h7
                have hz7 : wo.heap.size ≤ w7.heap.size := h7.size
                obtain ⟨G7, K7, R7, I7, M7⟩ := HF.out w7 (HB.out.trans (h7.mono HB.out.size))
                have f3 : w7.cell? ⟨w.heap.size, 3, none⟩ = some (.int .i64 (t : Int)) := G7.cell 3
                have f4 : w7.cell? ⟨w.heap.size, 4, none⟩ = some (.int .i64 k) := G7.cell 4
                have f5 : w7.cell? ⟨w.heap.size, 5, none⟩ = some (.int .i64 (b : Int)) := G7.cell 5
                have f6 : w7.cell? ⟨w.heap.size, 6, none⟩ = some (.string s) := G7.cell 6
                have f9 := G7.lt
                have s1 : w7.cell? ⟨bs, 1, none⟩ = some (.slice (some ⟨bx, ox, none⟩) nb cb) := K7.cell 1
                have s2 := K7.lt
                obtain ⟨hbx, x0, x1, x2⟩ := HXC.out w7 (HB.out.trans (h7.mono HB.out.size))
                have hc1 : w7.cell? ⟨w5.heap.size, i, none⟩ = some (.bool yi) := ((HC.out.below h7 HC.out.lt).cell i).trans (by rw [List.getElem?_map, HYI.out]; rfl)
                have hc2 := (HC.out.below h7 HC.out.lt).lt
                have hxc := fun (x : Ext w7) => x.cell
                have CTx := Lib.hid (fun W => CT.out x.kind x.at_ k (b : Int) x.word s W HXA.out (by omega))
                clear h7 G7 K7 R7 I7 M7
                simp only [quietsOf]
                repeat (go_big_quiet_step ((go_at_call 20; exact ext_call (CTx.out _))))
                refine wpQuiet_nil ?_
                rfl
              case hS10 =>
                intro o ho W h
                have hop : o.op = .store 4 (.tmp 134) (.tmp 133) := by rw [← Option.some.inj ho]
                obtain ⟨W', h1, h2, h3⟩ := store_bool (P := Try.prog) (x := .tmp 134) (y := .tmp 133) (v := false) (ty := 4) (g := w5.heap.size) (k := i) (cs := cs.map vBool) hop (b := ?aH10) (W := W) rfl rfl (by kernel_rfl) (by rw [List.length_map, HCL.out]; exact hlt) (HC.out.below h HC.out.lt)
                refine ⟨W', h1, by rw [← bools_set8]; exact h2, ?_⟩
                have hW := HB.out.trans (h.mono HB.out.size)
                exact hW.trans (But.below h3 (Nat.le_refl _) hW.size)
              case he10 =>
                intro W hW
                go_wp2
                go_meet
                case rel => exact ⟨rfl, false, Lib.hid hW.1, Lib.hid (fun h => h.elim (fun h => absurd h HIT.out) (fun h => absurd h.1 HTI.out)), Lib.hid hW.2⟩
      case rest =>
        obtain ⟨rfl, y, HC2, HRQ, HB2⟩ := hcut
        have HXT : Hid (atOf ws i = x.at_) := by show _ = _; unfold atOf; rw [HX.out]
        obtain ⟨c2, hc2⟩ : ∃ c2, c2 = cs.set i y := ⟨_, rfl⟩
        have HCL2 : Hid (c2.length = nb) := by show _ = _; rw [hc2, List.length_set]; exact HCL.out
        have HSO2 : Hid (∀ j, j < i → setOk ws t b c2 j) := fun j hj => by rw [hc2]; exact setOk_set (HSO.out j hj) hj
        have HRQ2 : Hid ((i = t ∨ (t < i ∧ touch x.at_ (b : Int) = true)) → c2[i]? = some true) := fun h => by rw [hc2, List.getElem?_set_self (by rw [HCL.out]; exact hlt), HRQ.out h]
        rw [← hc2] at HC2
        clear hc2 HCL HSO HRQ HC HB HYI
        go_wp2
        obtain ⟨wp, rfl⟩ : ∃ wp : World, wp = wc := ⟨_, rfl⟩
        go_loopw [11] (fun kv wr => ∃ (kk : Nat) (ds : List Bool), kk ≤ i ∧ kv = .int .i64 (kk : Int) ∧ Hid (ds.length = nb) ∧ Hid (Has wr w5.heap.size 4 (ds.map vBool)) ∧ Hid (∀ j, j < i → setOk ws t b ds j) ∧ Hid ((i = t ∨ (t < i ∧ touch x.at_ (b : Int) = true)) → ds[i]? = some true) ∧ Hid (∀ j, j < kk → ds[j]? = some true → touch (atOf ws j) x.at_ = true → ds[i]? = some true) ∧ Hid (Below w5.heap.size w5 wr)) (fun i' _ => i - (intOf i').toNat)
        case atStart => exact ⟨0, c2, Nat.zero_le _, rfl, HCL2, HC2, HSO2, HRQ2, fun j hj => absurd hj (by omega), HB2⟩
        case round =>
          clear HC2 HCL2 HSO2 HRQ2 HB2
          obtain ⟨kk, ds, hkk, rfl, HDL, HC, HSO, HR1, HR2, HB⟩ := hrel
          obtain ⟨wo, rfl⟩ : ∃ wo : World, wo = wr := ⟨_, rfl⟩
          by_cases hkl : kk < i
          · have jk : (kk : Int) < (i : Int) := by omega
            have jkn : (kk : Int) < (nb : Int) := by omega
            obtain ⟨z, hz⟩ := get_of_lt (l := ws) (k := kk) (by rw [HLB.out]; omega)
            obtain ⟨yi, hyi⟩ := get_of_lt (l := ds) (k := i) (by rw [HDL.out]; exact hlt)
            obtain ⟨yk, hyk⟩ := get_of_lt (l := ds) (k := kk) (by rw [HDL.out]; omega)
            have HZX := Lib.hid hz
            have HYI := Lib.hid hyi
            have HYK := Lib.hid hyk
            have HZA := Lib.hid (hatW.out kk z hz)
            have HZT : Hid (atOf ws kk = z.at_) := by show _ = _; unfold atOf; rw [hz]
            clear hz hyi hyk
            have HZC : Hid (∀ Z : World, Below w5.heap.size w5 Z → bx < Z.heap.size ∧ Z.cell? ⟨bx, ox + kk * 3, none⟩ = some (.int .i64 z.kind) ∧ Z.cell? ⟨bx, ox + kk * 3 + 1, none⟩ = some (.int .i64 z.at_) ∧ Z.cell? ⟨bx, ox + kk * 3 + 2, none⟩ = some (.string z.word)) := fun Z hZ => by
              obtain ⟨b9, o9, e9, u9, u0, u1, u2⟩ := (HF.out Z hZ).2.2.1 kk z HZX.out
              injection e9 with e9; injection e9 with e1 e2
              subst e1 e2
              exact ⟨u9, u0, u1, u2⟩
            go_upto_region 19 with (fail)
            cases yi with
            | true =>
              refine wp_region_store [.q, .q, .q, .q, .q, .q, .q, .q, .q, .q, .q, .q, .q, .q, .q, .q, .q, .q, .q, .q, .q, .q, .q, .q, .q, .q, .st 0] 26 12 ?aH1 (fun W => Below wo.heap.size wo W) (fun W => Has W w5.heap.size 4 ((ds.set i (true)).map vBool) ∧ Below w5.heap.size w5 W) (by kernel_rfl) (by kernel_rfl) (Below.refl _ _).drew (fun W W' h hb => h.trans (hb.mono h.size)) ?hq1 ?hS1 ?he1
              case hq1 =>
                intro w7 h7
                have hz7 : wo.heap.size ≤ w7.heap.size := h7.size
                obtain ⟨G7, K7, R7, I7, M7⟩ := HF.out w7 (HB.out.trans (h7.mono HB.out.size))
                have s1 : w7.cell? ⟨bs, 1, none⟩ = some (.slice (some ⟨bx, ox, none⟩) nb cb) := K7.cell 1
                have s2 := K7.lt
                obtain ⟨hbx, x0, x1, x2⟩ := HXC.out w7 (HB.out.trans (h7.mono HB.out.size))
                obtain ⟨_, z0, z1, z2⟩ := HZC.out w7 (HB.out.trans (h7.mono HB.out.size))
                have hc1 : w7.cell? ⟨w5.heap.size, i, none⟩ = some (.bool true) := ((HC.out.below h7 HC.out.lt).cell i).trans (by rw [List.getElem?_map, HYI.out]; rfl)
                have hc3 : w7.cell? ⟨w5.heap.size, kk, none⟩ = some (.bool yk) := ((HC.out.below h7 HC.out.lt).cell kk).trans (by rw [List.getElem?_map, HYK.out]; rfl)
                have hc2 := (HC.out.below h7 HC.out.lt).lt
                have hxc := fun (x : Ext w7) => x.cell
                have CTx := Lib.hid (fun W => CT.out z.kind z.at_ x.kind x.at_ z.word x.word W HZA.out HXA.out)
                clear h7 G7 K7 R7 I7 M7
                simp only [quietsOf]
                repeat (go_big_quiet_step ((go_at_call 20; exact ext_call (CTx.out _))))
                refine wpQuiet_nil ?_
                rfl
              case hS1 =>
                intro o ho W h
                have hop : o.op = .store 4 (.tmp 165) (.tmp 164) := by rw [← Option.some.inj ho]
                obtain ⟨W', h1, h2, h3⟩ := store_bool (P := Try.prog) (x := .tmp 165) (y := .tmp 164) (v := true) (ty := 4) (g := w5.heap.size) (k := i) (cs := ds.map vBool) hop (b := ?aH1) (W := W) rfl rfl (by kernel_rfl) (by rw [List.length_map, HDL.out]; exact hlt) (HC.out.below h HC.out.lt)
                refine ⟨W', h1, by rw [← bools_set8]; exact h2, ?_⟩
                have hW := HB.out.trans (h.mono HB.out.size)
                exact hW.trans (But.below h3 (Nat.le_refl _) hW.size)
              case he1 =>
                intro W hW
                go_wp2
                go_roundw
                case rel =>
                  refine ⟨kk + 1, ds.set i (true), by omega, by go_num, Lib.hid (by rw [List.length_set]; exact HDL.out), Lib.hid hW.1, Lib.hid (fun j hj => setOk_set (HSO.out j hj) hj), Lib.hid ?_, Lib.hid ?_, Lib.hid hW.2⟩
                  · intro hq
                    have h1 := HR1.out hq
                    rw [HYI.out] at h1
                    rw [List.getElem?_set_self (by rw [HDL.out]; exact hlt)]
                  · intro j hj h1 h2
                    rw [List.getElem?_set_ne (by omega)] at h1
                    rw [List.getElem?_set_self (by rw [HDL.out]; exact hlt)]
                case measure => first | (simp [intOf]; done) | (simp [intOf]; omega)
            | false =>
              cases yk with
              | true =>
                refine wp_region_store [.q, .q, .q, .q, .q, .q, .q, .q, .q, .q, .q, .q, .q, .q, .q, .q, .q, .q, .q, .q, .q, .q, .q, .q, .q, .q, .st 0] 26 12 ?aH2 (fun W => Below wo.heap.size wo W) (fun W => Has W w5.heap.size 4 ((ds.set i ((touch z.at_ x.at_))).map vBool) ∧ Below w5.heap.size w5 W) (by kernel_rfl) (by kernel_rfl) (Below.refl _ _).drew (fun W W' h hb => h.trans (hb.mono h.size)) ?hq2 ?hS2 ?he2
                case hq2 =>
                  intro w7 h7
                  have hz7 : wo.heap.size ≤ w7.heap.size := h7.size
                  obtain ⟨G7, K7, R7, I7, M7⟩ := HF.out w7 (HB.out.trans (h7.mono HB.out.size))
                  have s1 : w7.cell? ⟨bs, 1, none⟩ = some (.slice (some ⟨bx, ox, none⟩) nb cb) := K7.cell 1
                  have s2 := K7.lt
                  obtain ⟨hbx, x0, x1, x2⟩ := HXC.out w7 (HB.out.trans (h7.mono HB.out.size))
                  obtain ⟨_, z0, z1, z2⟩ := HZC.out w7 (HB.out.trans (h7.mono HB.out.size))
                  have hc1 : w7.cell? ⟨w5.heap.size, i, none⟩ = some (.bool false) := ((HC.out.below h7 HC.out.lt).cell i).trans (by rw [List.getElem?_map, HYI.out]; rfl)
                  have hc3 : w7.cell? ⟨w5.heap.size, kk, none⟩ = some (.bool true) := ((HC.out.below h7 HC.out.lt).cell kk).trans (by rw [List.getElem?_map, HYK.out]; rfl)
                  have hc2 := (HC.out.below h7 HC.out.lt).lt
                  have hxc := fun (x : Ext w7) => x.cell
                  have CTx := Lib.hid (fun W => CT.out z.kind z.at_ x.kind x.at_ z.word x.word W HZA.out HXA.out)
                  clear h7 G7 K7 R7 I7 M7
                  simp only [quietsOf]
                  repeat (go_big_quiet_step ((go_at_call 20; exact ext_call (CTx.out _))))
                  refine wpQuiet_nil ?_
                  rfl
                case hS2 =>
                  intro o ho W h
                  have hop : o.op = .store 4 (.tmp 165) (.tmp 164) := by rw [← Option.some.inj ho]
                  obtain ⟨W', h1, h2, h3⟩ := store_bool (P := Try.prog) (x := .tmp 165) (y := .tmp 164) (v := (touch z.at_ x.at_)) (ty := 4) (g := w5.heap.size) (k := i) (cs := ds.map vBool) hop (b := ?aH2) (W := W) rfl rfl (by kernel_rfl) (by rw [List.length_map, HDL.out]; exact hlt) (HC.out.below h HC.out.lt)
                  refine ⟨W', h1, by rw [← bools_set8]; exact h2, ?_⟩
                  have hW := HB.out.trans (h.mono HB.out.size)
                  exact hW.trans (But.below h3 (Nat.le_refl _) hW.size)
                case he2 =>
                  intro W hW
                  go_wp2
                  go_roundw
                  case rel =>
                    refine ⟨kk + 1, ds.set i ((touch z.at_ x.at_)), by omega, by go_num, Lib.hid (by rw [List.length_set]; exact HDL.out), Lib.hid hW.1, Lib.hid (fun j hj => setOk_set (HSO.out j hj) hj), Lib.hid ?_, Lib.hid ?_, Lib.hid hW.2⟩
                    · intro hq
                      have h1 := HR1.out hq
                      rw [HYI.out] at h1
                      rw [List.getElem?_set_self (by rw [HDL.out]; exact hlt)]
                      cases h1
                    · intro j hj h1 h2
                      rw [List.getElem?_set_ne (by omega)] at h1
                      rw [List.getElem?_set_self (by rw [HDL.out]; exact hlt)]
                      rcases Nat.lt_or_ge j kk with h3 | h3
                      · have h4 := HR2.out j h3 h1 h2
                        rw [HYI.out] at h4
                        cases h4
                      · obtain rfl : j = kk := by omega
                        rw [HYK.out] at h1
                        rw [HZT.out] at h2
                        rw [h2]
                  case measure => first | (simp [intOf]; done) | (simp [intOf]; omega)
              | false =>
                refine wp_region_store [.q, .q, .q, .q, .q, .q, .q, .q, .q, .q, .q, .q, .q, .q, .q, .q, .q, .q, .q, .q, .q, .q, .q, .q, .q, .q, .st 0] 26 12 ?aH3 (fun W => Below wo.heap.size wo W) (fun W => Has W w5.heap.size 4 ((ds.set i (false)).map vBool) ∧ Below w5.heap.size w5 W) (by kernel_rfl) (by kernel_rfl) (Below.refl _ _).drew (fun W W' h hb => h.trans (hb.mono h.size)) ?hq3 ?hS3 ?he3
                case hq3 =>
                  intro w7 h7
                  have hz7 : wo.heap.size ≤ w7.heap.size := h7.size
                  obtain ⟨G7, K7, R7, I7, M7⟩ := HF.out w7 (HB.out.trans (h7.mono HB.out.size))
                  have s1 : w7.cell? ⟨bs, 1, none⟩ = some (.slice (some ⟨bx, ox, none⟩) nb cb) := K7.cell 1
                  have s2 := K7.lt
                  obtain ⟨hbx, x0, x1, x2⟩ := HXC.out w7 (HB.out.trans (h7.mono HB.out.size))
                  obtain ⟨_, z0, z1, z2⟩ := HZC.out w7 (HB.out.trans (h7.mono HB.out.size))
                  have hc1 : w7.cell? ⟨w5.heap.size, i, none⟩ = some (.bool false) := ((HC.out.below h7 HC.out.lt).cell i).trans (by rw [List.getElem?_map, HYI.out]; rfl)
                  have hc3 : w7.cell? ⟨w5.heap.size, kk, none⟩ = some (.bool false) := ((HC.out.below h7 HC.out.lt).cell kk).trans (by rw [List.getElem?_map, HYK.out]; rfl)
                  have hc2 := (HC.out.below h7 HC.out.lt).lt
                  have hxc := fun (x : Ext w7) => x.cell
                  have CTx := Lib.hid (fun W => CT.out z.kind z.at_ x.kind x.at_ z.word x.word W HZA.out HXA.out)
                  clear h7 G7 K7 R7 I7 M7
                  simp only [quietsOf]
                  repeat (go_big_quiet_step ((go_at_call 20; exact ext_call (CTx.out _))))
                  refine wpQuiet_nil ?_
                  rfl
                case hS3 =>
                  intro o ho W h
                  have hop : o.op = .store 4 (.tmp 165) (.tmp 164) := by rw [← Option.some.inj ho]
                  obtain ⟨W', h1, h2, h3⟩ := store_bool (P := Try.prog) (x := .tmp 165) (y := .tmp 164) (v := false) (ty := 4) (g := w5.heap.size) (k := i) (cs := ds.map vBool) hop (b := ?aH3) (W := W) rfl rfl (by kernel_rfl) (by rw [List.length_map, HDL.out]; exact hlt) (HC.out.below h HC.out.lt)
                  refine ⟨W', h1, by rw [← bools_set8]; exact h2, ?_⟩
                  have hW := HB.out.trans (h.mono HB.out.size)
                  exact hW.trans (But.below h3 (Nat.le_refl _) hW.size)
                case he3 =>
                  intro W hW
                  go_wp2
                  go_roundw
                  case rel =>
                    refine ⟨kk + 1, ds.set i (false), by omega, by go_num, Lib.hid (by rw [List.length_set]; exact HDL.out), Lib.hid hW.1, Lib.hid (fun j hj => setOk_set (HSO.out j hj) hj), Lib.hid ?_, Lib.hid ?_, Lib.hid hW.2⟩
                    · intro hq
                      have h1 := HR1.out hq
                      rw [HYI.out] at h1
                      rw [List.getElem?_set_self (by rw [HDL.out]; exact hlt)]
                      cases h1
                    · intro j hj h1 h2
                      rw [List.getElem?_set_ne (by omega)] at h1
                      rw [List.getElem?_set_self (by rw [HDL.out]; exact hlt)]
                      rcases Nat.lt_or_ge j kk with h3 | h3
                      · have h4 := HR2.out j h3 h1 h2
                        rw [HYI.out] at h4
                        cases h4
                      · obtain rfl : j = kk := by omega
                        rw [HYK.out] at h1
                        rw [HZT.out] at h2
                        cases h1
                  case measure => first | (simp [intOf]; done) | (simp [intOf]; omega)
          · obtain rfl : i = kk := by omega
            have jk : ¬ (i : Int) < (i : Int) := by omega
            go_wp2
            go_roundw
            case rel =>
              refine ⟨i + 1, ds, by omega, by go_num, HDL, HC, Lib.hid ?_, HB⟩
              intro j hj
              rcases Nat.lt_or_ge j i with h | h
              · exact HSO.out j h
              · obtain rfl : j = i := by omega
                intro hm
                rcases hm with h1 | h1 | ⟨k', h1, h2, h3⟩
                · exact HR1.out (.inl h1)
                · rw [HXT.out] at h1; exact HR1.out (.inr h1)
                · rw [HXT.out] at h3; exact HR2.out k' h1 h2 h3
            case measure => first | (simp [intOf]; done) | (simp [intOf]; omega)
    · obtain rfl : nb = i := by omega
      have HSA : Hid (∀ j, j ∈ L → cs[j]? = some true) := fun j hj => in_must htn (fun i' hi' hm => HSO.out i' hi' hm) j (by rw [← HLE.out]; exact hj)
      have HLlt : Hid (∀ j, j ∈ L → j < nb) := fun j hj => by rw [HLE.out] at hj; exact abU_lt ws t b nb (by omega) j hj
      have HUP : Hid (∀ i' j' x' y' : Nat, L[i']? = some x' → L[j']? = some y' → i' < j' → x' < y') := fun i' j' x' y' hx' hy' hij => by rw [HLE.out] at hx' hy'; exact abU_up htn hx' hy' hij
      clear HSO
      go_wp2
      obtain ⟨wp, rfl⟩ : ∃ wp : World, wp = wo := ⟨_, rfl⟩
      go_loopw [12] (fun iv wr => ∃ j : Nat, j ≤ n8 ∧ iv = .int .i64 (j : Int) ∧ Hid (Below wp.heap.size wp wr)) (fun i' _ => n8 - (intOf i').toNat)
      case atStart => exact ⟨0, Nat.zero_le _, rfl, Below.refl _ _⟩
      case round =>
        obtain ⟨j, hj, rfl, HBB⟩ := hrel
        obtain ⟨wo, rfl⟩ : ∃ wo : World, wo = wr := ⟨_, rfl⟩
        by_cases hjl : j < n8
        · have jk : (j : Int) < (n8 : Int) := by omega
          obtain ⟨x, hx⟩ := get_of_lt (l := L) (k := j) (by rw [HHL.out]; exact hjl)
          obtain ⟨G7, K7, R7, I7, M7⟩ := HF.out wo (HB.out.trans (HBB.out.mono HB.out.size))
          have hxl := HLlt.out x (mem_of_get hx)
          have hsx := HSA.out x (mem_of_get hx)
          obtain ⟨b8, o8, hA8, hb8, e1⟩ := I7 j (x : Int) (by rw [List.getElem?_map, hx]; rfl)
          have c1 : wo.cell? ⟨w5.heap.size, x, none⟩ = some (.bool true) := ((HC.out.below HBB.out HC.out.lt).cell x).trans (by rw [List.getElem?_map, hsx]; rfl)
          have c2 := (HC.out.below HBB.out HC.out.lt).lt
          have d1 : decide ((x : Int) < 0) = false := decide_eq_false (by omega)
          have d2 : decide ((nb : Int) ≤ (x : Int)) = false := decide_eq_false (by omega)
          have d2' : decide (nb ≤ x) = false := decide_eq_false (by omega)
          have d5 : (x : Int) < (nb : Int) := by omega
          by_cases hj0 : j = 0
          · subst hj0
            subst hA8
            rw [Nat.add_zero] at e1
            clear hx hsx
            go_wp2
            have hxc := fun (x : Ext wo) => x.cell
            refine wp_region_ext (by kernel_rfl) (by kernel_rfl) ?_
            repeat (go_big_quiet_step (fail))
            refine wpQuiet_nil ?_
            intro w9 hw'
            have hb9 := ext_below hw'; clear hw' hxc
            go_wp2
            go_roundw
            case rel => exact ⟨0 + 1, by omega, by go_num, Lib.hid (HBB.out.trans (hb9.mono HBB.out.size))⟩
            case measure => first | (simp [intOf]; done) | (simp [intOf]; omega)
          · obtain ⟨x0, hx0⟩ := get_of_lt (l := L) (k := j - 1) (by rw [HHL.out]; omega)
            have hup := HUP.out (j - 1) j x0 x hx0 hx (by omega)
            obtain ⟨b8', o8', hA8', hb8', e2⟩ := I7 (j - 1) (x0 : Int) (by rw [List.getElem?_map, hx0]; rfl)
            rw [hA8] at hA8'
            injection hA8' with hA8'; injection hA8' with g1 g2
            subst g1 g2
            subst hA8
            have d3 : decide ((0 : Int) < (j : Int)) = true := decide_eq_true (by omega)
            have d3' : decide (0 < j) = true := decide_eq_true (by omega)
            have d4 : decide ((x : Int) ≤ (x0 : Int)) = false := decide_eq_false (by omega)
            have d4' : decide (x ≤ x0) = false := decide_eq_false (by omega)
            have i1 : IntKind.i64.wrap ((j : Int) - 1) = ((j - 1 : Nat) : Int) := by rw [IntWalk.i64_in _ (by omega)]; omega
            have j1 : ((j - 1 : Nat) : Int) < (n8 : Int) := by omega
            clear hx hsx hx0
            go_wp2
            have hxc := fun (x : Ext wo) => x.cell
            refine wp_region_ext (by kernel_rfl) (by kernel_rfl) ?_
            repeat (go_big_quiet_step (fail))
            refine wpQuiet_nil ?_
            intro w9 hw'
            have hb9 := ext_below hw'; clear hw' hxc
            go_wp2
            go_roundw
            case rel => exact ⟨j + 1, by omega, by go_num, Lib.hid (HBB.out.trans (hb9.mono HBB.out.size))⟩
            case measure => first | (simp [intOf]; done) | (simp [intOf]; omega)
        · obtain rfl : n8 = j := by omega
          have hjn : ¬ (n8 : Int) < (n8 : Int) := by omega
          obtain ⟨wq, hwq⟩ : ∃ wq : World, wq = wo := ⟨_, rfl⟩
          have HB9 := Lib.hid (HB.out.trans (HBB.out.mono HB.out.size))
          have HMI : Hid (∀ i, i < nb → must28 ws t b (fun k' => k' ∈ L) i → i ∈ L) := fun i hi hm => by rw [HLE.out] at hm ⊢; exact must_in htn hi hm
          go_wp2
          clear HB HBB HC HSA HUP
          rw [← hwq] at HB9
          simp only [← hwq]
          clear hwq
          go_loopw [13] (fun iv wr => ∃ i : Nat, i ≤ nb ∧ iv = .int .i64 (i : Int) ∧ Hid (Below w5.heap.size w5 wr)) (fun i' _ => nb - (intOf i').toNat)
          case atStart => exact ⟨0, Nat.zero_le _, rfl, HB9⟩
          case round =>
            clear HB9
            obtain ⟨i, hi, rfl, HB⟩ := hrel
            obtain ⟨wo, rfl⟩ : ∃ wo : World, wo = wr := ⟨_, rfl⟩
            by_cases hlt : i < nb
            · have jn : (i : Int) < (nb : Int) := by omega
              obtain ⟨x, hx⟩ := get_of_lt (l := ws) (k := i) (by rw [HLB.out]; exact hlt)
              have HX := Lib.hid hx
              have HXA := Lib.hid (hatW.out i x hx)
              have HXT : Hid (atOf ws i = x.at_) := by show _ = _; unfold atOf; rw [hx]
              clear hx
              obtain ⟨bx, ox, hBx, _⟩ := (HF.out wo HB.out).2.2.1 i x HX.out
              subst hBx
              have HXC : Hid (∀ Z : World, Below w5.heap.size w5 Z → bx < Z.heap.size ∧ Z.cell? ⟨bx, ox + i * 3, none⟩ = some (.int .i64 x.kind) ∧ Z.cell? ⟨bx, ox + i * 3 + 1, none⟩ = some (.int .i64 x.at_) ∧ Z.cell? ⟨bx, ox + i * 3 + 2, none⟩ = some (.string x.word)) := fun Z hZ => by
                obtain ⟨b9, o9, e9, u9, u0, u1, u2⟩ := (HF.out Z hZ).2.2.1 i x HX.out
                injection e9 with e9; injection e9 with e1 e2
                subst e1 e2
                exact ⟨u9, u0, u1, u2⟩
              go_upto_region 28 with (fail)
              go_cut [14] from 212 to 268 (fun v wx => ∃ y : Bool, v = .bool y ∧ Hid (y = true → i ∈ L) ∧ Hid (Below w5.heap.size w5 wx))
              case first =>
                obtain ⟨G7, K7, R7, I7, M7⟩ := HF.out wo HB.out
                have f3 : wo.cell? ⟨w.heap.size, 3, none⟩ = some (.int .i64 (t : Int)) := G7.cell 3
                have f4 : wo.cell? ⟨w.heap.size, 4, none⟩ = some (.int .i64 k) := G7.cell 4
                have f5 : wo.cell? ⟨w.heap.size, 5, none⟩ = some (.int .i64 (b : Int)) := G7.cell 5
                have f6 : wo.cell? ⟨w.heap.size, 6, none⟩ = some (.string s) := G7.cell 6
                have f9 := G7.lt
                have s1 : wo.cell? ⟨bs, 1, none⟩ = some (.slice (some ⟨bx, ox, none⟩) nb cb) := K7.cell 1
                have s2 := K7.lt
                obtain ⟨hbx, x0, x1, x2⟩ := HXC.out wo HB.out
                have hxc := fun (x : Ext wo) => x.cell
                have CTx := Lib.hid (fun W => CT.out x.kind x.at_ k (b : Int) x.word s W HXA.out (by omega))
                clear G7 K7 R7 I7 M7
                by_cases hit : i = t
                · have ge : ((i : Int) == (t : Int)) = true := by subst hit; simp
                  have HIT := Lib.hid hit
                  clear hit
                  refine wp_region_ext (by kernel_rfl) (by kernel_rfl) ?_
                  repeat (go_big_quiet_step ((go_at_call 20; exact ext_call (CTx.out _))))
                  refine wpQuiet_nil ?_
                  intro w9 hw'
                  have hb9 := ext_below hw'; clear hw' hxc
                  go_wp2
                  go_meet
                  case rel => exact ⟨true, rfl, Lib.hid (fun _ => HMI.out i hlt (.inl HIT.out)), Lib.hid (HB.out.trans (hb9.mono HB.out.size))⟩
                · have ge : ((i : Int) == (t : Int)) = false := by simp; omega
                  by_cases hti : t < i
                  · have gt : decide ((t : Int) < (i : Int)) = true := decide_eq_true (by omega)
                    have gt2 : decide (t < i) = true := decide_eq_true hti
                    have gt3 : (t : Int) < (i : Int) := by omega
                    have HTI := Lib.hid hti
                    refine wp_region_ext (by kernel_rfl) (by kernel_rfl) ?_
                    repeat (go_big_quiet_step ((go_at_call 20; exact ext_call (CTx.out _))))
                    refine wpQuiet_nil ?_
                    intro w9 hw'
                    have hb9 := ext_below hw'; clear hw' hxc
                    go_wp2
                    go_meet
                    case rel => exact ⟨(touch x.at_ (b : Int)), rfl, Lib.hid (fun h => HMI.out i hlt (.inr (.inl ⟨HTI.out, by rw [HXT.out]; exact h⟩))), Lib.hid (HB.out.trans (hb9.mono HB.out.size))⟩
                  · have gt : decide ((t : Int) < (i : Int)) = false := decide_eq_false (by omega)
                    have gt2 : decide (t < i) = false := decide_eq_false hti
                    have gt3 : ¬ (t : Int) < (i : Int) := by omega
                    refine wp_region_ext (by kernel_rfl) (by kernel_rfl) ?_
                    repeat (go_big_quiet_step ((go_at_call 20; exact ext_call (CTx.out _))))
                    refine wpQuiet_nil ?_
                    intro w9 hw'
                    have hb9 := ext_below hw'; clear hw' hxc
                    go_wp2
                    go_meet
                    case rel => exact ⟨false, rfl, Lib.hid (fun h => by cases h), Lib.hid (HB.out.trans (hb9.mono HB.out.size))⟩
              case rest =>
                obtain ⟨y, rfl, HY, HB2⟩ := hcut
                go_wp2
                obtain ⟨wp, hwp⟩ : ∃ wp : World, wp = wc := ⟨_, rfl⟩
                rw [← hwp] at HB2
                simp only [← hwp]
                clear hwp HB
                go_loopw [14, 15] (fun mv kv wr => ∃ (y : Bool) (kk : Nat), kk ≤ i ∧ mv = .bool y ∧ kv = .int .i64 (kk : Int) ∧ Hid (y = true → i ∈ L) ∧ Hid (Below w5.heap.size w5 wr)) (fun _ k' _ => i - (intOf k').toNat)
                case atStart => exact ⟨y, 0, Nat.zero_le _, rfl, rfl, HY, HB2⟩
                case round =>
                  clear HY HB2
                  obtain ⟨y, kk, hkk, rfl, rfl, HY, HB⟩ := hrel
                  obtain ⟨wo, rfl⟩ : ∃ wo : World, wo = wr := ⟨_, rfl⟩
                  have CIx : Hid (∀ (v : Int) (W : World), Below wo.heap.size wo W → Calls Try.prog 25 #[.slice A8 n8 c8, .int .i64 v] W fun e w' => e = .returned (.bool (decide (v ∈ L.map (fun (j : Nat) => (j : Int))))) ∧ Below W.heap.size W w') := fun v W hW => (in28 A8 n8 c8 (L.map (fun (j : Nat) => (j : Int))) v W (by omega) (HF.out W (HB.out.trans (hW.mono HB.out.size))).2.2.2.1 (by rw [List.length_map, HHL.out])).mono (fun e w' h => ⟨h.1, h.2 ▸ Below.refl _ _⟩)
                  by_cases hkl : kk < i
                  · have jk : (kk : Int) < (i : Int) := by omega
                    have jkn : (kk : Int) < (nb : Int) := by omega
                    obtain ⟨z, hz⟩ := get_of_lt (l := ws) (k := kk) (by rw [HLB.out]; omega)
                    have HZA := Lib.hid (hatW.out kk z hz)
                    have HZT : Hid (atOf ws kk = z.at_) := by show _ = _; unfold atOf; rw [hz]
                    obtain ⟨bz, oz, ez, _, z0, z1, z2⟩ := (HF.out wo HB.out).2.2.1 kk z hz
                    injection ez with ez; injection ez with ez1 ez2
                    subst ez1 ez2
                    obtain ⟨hbx, x0, x1, x2⟩ := HXC.out wo HB.out
                    have s1 : wo.cell? ⟨bs, 1, none⟩ = some (.slice (some ⟨bx, ox, none⟩) nb cb) := (HF.out wo HB.out).2.1.cell 1
                    have s2 := (HF.out wo HB.out).2.1.lt
                    have CTx := Lib.hid (fun W => CT.out z.kind z.at_ x.kind x.at_ z.word x.word W HZA.out HXA.out)
                    clear hz
                    cases y with
                    | true =>
                      have HIY := Lib.hid (HY.out rfl)
                      clear HY
                      go_wp2
                      have hxc := fun (x : Ext wo) => x.cell
                      refine wp_region_ext (by kernel_rfl) (by kernel_rfl) ?_
                      repeat (go_big_quiet_step (fail))
                      refine wpQuiet_nil ?_
                      intro w9 hw'
                      have hb9 := ext_below hw'; clear hw' hxc
                      go_wp2
                      go_roundw
                      case rel => exact ⟨true, kk + 1, by omega, rfl, by go_num, Lib.hid (fun _ => HIY.out), Lib.hid (HB.out.trans (hb9.mono HB.out.size))⟩
                      case measure => first | (simp [intOf]; done) | (simp [intOf]; omega)
                    | false =>
                      by_cases hin : kk ∈ L
                      · have HIN := Lib.hid hin
                        have dd : Hid (decide ((kk : Int) ∈ L.map (fun (j : Nat) => (j : Int))) = true) := decide_eq_true (List.mem_map.2 ⟨kk, hin, rfl⟩)
                        have CIy := Lib.hid (CIx.out (kk : Int))
                        rw [dd.out] at CIy
                        clear hin
                        go_wp2
                        have hxc := fun (x : Ext wo) => x.cell
                        refine wp_region_ext (by kernel_rfl) (by kernel_rfl) ?_
                        repeat (go_big_quiet_step ((first | (go_at_call 25; exact ext_call (CIy.out _ (Ext.below _))) | (go_at_call 20; exact ext_call (CTx.out _)))))
                        refine wpQuiet_nil ?_
                        intro w9 hw'
                        have hb9 := ext_below hw'; clear hw' hxc
                        go_wp2
                        go_roundw
                        case rel => exact ⟨touch z.at_ x.at_, kk + 1, by omega, rfl, by go_num, Lib.hid (fun h => HMI.out i hlt (.inr (.inr ⟨kk, hkl, HIN.out, by rw [HZT.out, HXT.out]; exact h⟩))), Lib.hid (HB.out.trans (hb9.mono HB.out.size))⟩
                        case measure => first | (simp [intOf]; done) | (simp [intOf]; omega)
                      · have dd : Hid (decide ((kk : Int) ∈ L.map (fun (j : Nat) => (j : Int))) = false) := decide_eq_false (fun h => by
                          obtain ⟨j, hj, e⟩ := List.mem_map.1 h
                          have : j = kk := by omega
                          exact hin (this ▸ hj))
                        have CIy := Lib.hid (CIx.out (kk : Int))
                        rw [dd.out] at CIy
                        clear hin
                        go_wp2
                        have hxc := fun (x : Ext wo) => x.cell
                        refine wp_region_ext (by kernel_rfl) (by kernel_rfl) ?_
                        repeat (go_big_quiet_step ((go_at_call 25; exact ext_call (CIy.out _ (Ext.below _)))))
                        refine wpQuiet_nil ?_
                        intro w9 hw'
                        have hb9 := ext_below hw'; clear hw' hxc
                        go_wp2
                        go_roundw
                        case rel => exact ⟨false, kk + 1, by omega, rfl, by go_num, Lib.hid (fun h => by cases h), Lib.hid (HB.out.trans (hb9.mono HB.out.size))⟩
                        case measure => first | (simp [intOf]; done) | (simp [intOf]; omega)
                  · obtain rfl : i = kk := by omega
                    have jk : ¬ (i : Int) < (i : Int) := by omega
                    cases y with
                    | true =>
                      have dd : Hid (decide ((i : Int) ∈ L.map (fun (j : Nat) => (j : Int))) = true) := decide_eq_true (List.mem_map.2 ⟨i, HY.out rfl, rfl⟩)
                      have CIy := Lib.hid (CIx.out (i : Int) wo (Below.refl _ _))
                      rw [dd.out] at CIy
                      go_wp2_with fail
                      refine CIy.out.mono ?_
                      rintro e w9 ⟨rfl, hb9⟩
                      go_wp2
                      go_roundw
                      case rel => exact ⟨i + 1, by omega, by go_num, Lib.hid (HB.out.trans (hb9.mono HB.out.size))⟩
                      case measure => first | (simp [intOf]; done) | (simp [intOf]; omega)
                    | false =>
                      go_wp2
                      go_roundw
                      case rel => exact ⟨i + 1, by omega, by go_num, HB⟩
                      case measure => first | (simp [intOf]; done) | (simp [intOf]; omega)
            · obtain rfl : nb = i := by omega
              have jn : ¬ (nb : Int) < (nb : Int) := by omega
              obtain ⟨G7, K7, R7, I7, M7⟩ := HF.out wo HB.out
              have f1 : wo.cell? ⟨w.heap.size, 1, none⟩ = some (.int .i64 span) := G7.cell 1
              have f3 : wo.cell? ⟨w.heap.size, 3, none⟩ = some (.int .i64 (t : Int)) := G7.cell 3
              have f4 : wo.cell? ⟨w.heap.size, 4, none⟩ = some (.int .i64 k) := G7.cell 4
              have f5 : wo.cell? ⟨w.heap.size, 5, none⟩ = some (.int .i64 (b : Int)) := G7.cell 5
              have f6 : wo.cell? ⟨w.heap.size, 6, none⟩ = some (.string s) := G7.cell 6
              have f9 := G7.lt
              have s0 : wo.cell? ⟨bs, 0, none⟩ = some (.int .i64 q) := K7.cell 0
              have s1 : wo.cell? ⟨bs, 1, none⟩ = some (.slice B nb cb) := K7.cell 1
              have s2 := K7.lt
              have CP := Lib.hid (unPlan q span (t : Int) k (b : Int) s B nb cb ws wo (by omega) hnb hcb R7 HLB.out HS3.out hs2)
              have HLE2 := Lib.hid (plan_lens HPE.out)
              have HLE3 := Lib.hid (plan_les HPE.out)
              rw [HPE.out] at CP
              rw [HPL.out] at HLE2
              obtain ⟨U, hU⟩ : ∃ U, U = plU q span ws (t : Int) ⟨k, (b : Int), s⟩ := ⟨_, rfl⟩
              obtain ⟨R, hR⟩ : ∃ R, R = plR q span ws (t : Int) ⟨k, (b : Int), s⟩ := ⟨_, rfl⟩
              rw [← hU, ← hR] at CP HLE2 HLE3
              clear hU hR G7 K7 R7 I7 M7
              go_wp2_with fail
              refine CP.out.mono ?_
              rintro e w10 ⟨A1, n1, c1, A2, n2, c2, rfl, ru, lu, mu, ou, rr, lr, mr, or_, hb10⟩
              have CU := Lib.hid (reaches15 A1 n1 c1 U w10 (by have := HLE3.out.1; omega) ru lu)
              have CR := Lib.hid (reaches15 A2 n2 c2 R w10 (by have := HLE3.out.2; omega) rr lr)
              have k1 := HLE2.out.1
              have k2 := HLE2.out.2
              have k3 := HHL.out
              have k4 := HLE3.out.1
              have k5 := HLE3.out.2
              obtain ⟨r1, hr1⟩ : ∃ r, r = reachN U := ⟨_, rfl⟩
              obtain ⟨r2, hr2⟩ : ∃ r, r = reachN R := ⟨_, rfl⟩
              rw [← hr1] at CU k1
              rw [← hr2] at CR k2
              have i1 : IntKind.i64.wrap ((n1 : Int) - (r1 : Int)) = (n8 : Int) := by rw [IntWalk.i64_in _ (by omega)]; omega
              have i2 : IntKind.i64.wrap ((n2 : Int) - (r2 : Int)) = (n8 : Int) := by rw [IntWalk.i64_in _ (by omega)]; omega
              have HB10 := Lib.hid (BB5.out.trans ((HB.out.mono BB5.out.size).trans (hb10.mono (by have := BB5.out.size; have := HB.out.size; omega))))
              clear CP k1 k2 k3 k4 k5 hr1 hr2 ru rr lu lr mu mr ou or_ hb10 f1 f3 f4 f5 f6 f9 s0 s1 s2
              go_wp2_with fail
              refine CU.out.mono ?_
              rintro e w11 ⟨rfl, rfl⟩
              go_wp2_with fail
              refine CR.out.mono ?_
              rintro e w12 ⟨rfl, rfl⟩
              go_wp2_with fail
              refine (AWK.out _).mono ?_
              rintro e w13 ⟨rfl, hb13⟩
              go_wp2
              go_ret
              exact ⟨rfl, bvia HB10.out hb13⟩
end Go.Proofs.Ytnjenggijmbhcaa
