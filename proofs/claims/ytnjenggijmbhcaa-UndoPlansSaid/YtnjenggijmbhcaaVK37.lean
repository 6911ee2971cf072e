/-
  Contracts for undo.Net: the closure that looks at the top of a stack.
-/
import Derived.Test.YtnjenggijmbhcaaVK3
import Derived.Test.YtnjenggijmbhcaaVK10
import Derived.Test.YtnjenggijmbhcaaVK12
import Derived.Test.YtnjenggijmbhcaaVK34
import Derived.Test.YtnjenggijmbhcaaVK36
import Derived.RegionTactic
import Derived.Laws.MakeOwn
namespace Go.Proofs.Ytnjenggijmbhcaa
open Go.RowKit
set_option maxRecDepth 100000 in
set_option maxHeartbeats 400000 in
theorem unTop (qi : Int) (q S c : Nat) (hqi : qi = q) (A : Option Addr) (L : List Nat) (w : World) (hq : q < 24) (hc : w.cell? ⟨S, q, none⟩ = some (.slice A L.length c)) (hr : Rd1 vNat w w.heap.size A L) (hl : L.length ≤ 400) :
    Calls Try.prog 41 #[.int .i64 qi, .pointer (some ⟨S, 0, none⟩)] w fun e w' => e = .returned (.int .i64 (topOf L)) ∧ w = w' := by
  subst hqi
  rcases List.eq_nil_or_concat L with rfl | ⟨L', k, hLk⟩
  · go_enter Try.func41, Try.ntmps41
    go_wp2
    go_ret
    exact ⟨rfl, rfl⟩
  · rw [List.concat_eq_append] at hLk
    subst hLk
    obtain ⟨b, o, rfl, hb, hk⟩ := hr L'.length k (by simp)
    have hT := Lib.hid (topOf_snoc L' k)
    have HR := Lib.hid hr; clear hr
    have hlen : (L' ++ [k]).length = L'.length + 1 := by simp
    rw [hlen] at hc hl
    clear hlen
    go_enter Try.func41, Try.ntmps41
    go_wp2
    go_ret
    exact ⟨ret_int hT.out.symm, rfl⟩
theorem infoBool : (Try.prog.info? 4).map (fun i => (i.zero, i.size, i.bytes)) = some (some (.bool false), 1, 1) := by kernel_rfl
theorem mkBools (n : Nat) (hn : n ≤ 1000) (W : World) : (Instr.makeSlice 50 (.int .i64 (n : Int)) (.int .i64 (n : Int))).run Try.prog W = .ok (.slice (some ⟨W.heap.size, 0, none⟩) n n) (W.alloc (.cells (madeCells #[.bool false] n) 4)) := by
  obtain ⟨i, hi, hz, hs, hb⟩ := info_parts infoBool
  have h := run_make (P := Try.prog) W 50 4 i (.bool false) Try.underlying50 hi hz .i64 .i64 (n : Int) (n : Int) (by omega) (Int.le_refl _) (by rw [hb]; omega) (by omega)
  rw [Int.toNat_natCast, hs, Nat.mul_one] at h
  simpa [Value.cells] using h
set_option maxRecDepth 100000 in
set_option maxHeartbeats 2000000 in
theorem NetUn (p : Int) (A : Option Addr) (n c : Nat) (ws : List Wk) (w : World) (hn : n ≤ 9223372036854775807) (hnc : n ≤ c) (hw : RdW w w.heap.size A ws) (hl : ws.length = n)
    (hs : ∀ x ∈ ws, x.word.size ≤ 9223372036854775807) (h0 : schk p ws = 0) :
    Calls Try.prog 15 #[.agg #[.int .i64 p, .slice A n c]] w (RetSE p (netL ws) 0 w) := by
  have HW := Lib.hid hw; clear hw
  have HL := Lib.hid hl; clear hl
  have HS := Lib.hid hs; clear hs
  have H0 := Lib.hid h0
  have ok := schk_zero h0
  have hn4 : n ≤ 400 := by have := ok.len; rw [HL.out] at this; exact this
  have HR := Lib.hid (show ∀ x ∈ ws, 0 ≤ x.at_ ∧ x.at_ ≤ 22 from fun x hx => by
    obtain ⟨_, h1, h2, _⟩ := bad_at (ok.good x hx)
    have := ok.le
    omega)
  clear h0 ok
  go_enter Try.func15, Try.ntmps15
  go_wp2_with fail
  refine (shCheck _ _ _ _ _ _ hn (HW.out.up (by go_grown)) HL.out HS.out).mono ?_
  rintro e w1 ⟨rfl, hb1⟩
  rw [H0.out]
  have hb0 : Below w.heap.size w w1 := bvia (by go_grown) hb1
  have hz1 : w.heap.size + 1 < w1.heap.size := by have := hb1.size; simp at this; omega
  have d0 : w1.cell? ⟨w.heap.size, 0, none⟩ = some (.int .i64 p) := by rw [hb1.cell (by simp; omega)]; go_simp
  have d1 : w1.cell? ⟨w.heap.size, 1, none⟩ = some (.slice A n c) := by rw [hb1.cell (by simp; omega)]; go_simp
  have hz10 : w.heap.size < w1.heap.size := by omega
  have hmk := mkBools n (by omega)
  -- LOOP1
  go_wp2
  clear hmk
  have hst := netInv_start ws n w1 (by omega)
  have HD0 := Lib.hid d0; clear d0
  have HD1 := Lib.hid d1; clear d1
  go_loopw [31] (fun s31 wr => ∃ (i : Nat) (K : List Nat) (V : Nat → Value), i ≤ n ∧ s31 = .int .i64 (i : Int) ∧ NetInv ws w1.heap.size n w1 i K V wr)
    (fun s31 _ => n - (intOf s31).toNat)
  case atStart => exact ⟨0, [], _, Nat.zero_le _, rfl, hst⟩
  case round =>
    clear hst
    obtain ⟨i, K, V, hi, rfl, I⟩ := hrel
    obtain ⟨wo, rfl⟩ : ∃ wo : World, wo = wr := ⟨_, rfl⟩
    have hW : Below w.heap.size w wo := hb0.trans (I.old.mono (by omega))
    have d0 : wo.cell? ⟨w.heap.size, 0, none⟩ = some (.int .i64 p) := by rw [I.old.cell (by simp; omega)]; exact HD0.out
    have d1 : wo.cell? ⟨w.heap.size, 1, none⟩ = some (.slice A n c) := by rw [I.old.cell (by simp; omega)]; exact HD1.out
    have hzT : w1.heap.size < wo.heap.size := I.has.lt
    have hT1 : w1.heap.size + 1 < wo.heap.size := (I.kept.lt _ rfl).2
    have hz0 : w.heap.size < wo.heap.size := by omega
    by_cases hlt : i < n
    · obtain ⟨x, hx⟩ := get_of_lt (l := ws) (k := i) (by rw [HL.out]; exact hlt)
      obtain ⟨ba, o, rfl, hb, c1, c2, c3⟩ := (HW.out.below hW (Nat.le_of_lt hz0)) _ x hx
      obtain ⟨hx0, hx1⟩ := HR.out x (mem_of_get hx)
      have hsx := HS.out x (mem_of_get hx)
      obtain ⟨a, ha⟩ := Int.eq_ofNat_of_zero_le hx0
      have ha22 : a ≤ 22 := by omega
      rw [ha] at c2
      have hKl : ∀ k ∈ K, k < ws.length := fun k hk => by have := I.lt k hk; rw [HL.out]; omega
      have HSt := Lib.hid (net_step ws K i a x hx ha hKl)
      have HX := Lib.hid hx; clear hx
      have HA := Lib.hid ha; clear ha hx0 hx1
      -- the two rows
      obtain ⟨A0, k0, hV0⟩ := own_form (I.rows a (by omega))
      obtain ⟨A1, k1, hV1⟩ := own_form (I.rows (a + 1) (by omega))
      have s0 : wo.cell? ⟨w1.heap.size, a, none⟩ = some (.slice A0 (stk ws K a).length k0) := by rw [I.has.cell, List.getElem?_map, List.getElem?_range (by omega)]; exact congrArg some hV0
      have s1 : wo.cell? ⟨w1.heap.size, a + 1, none⟩ = some (.slice A1 (stk ws K (a + 1)).length k1) := by rw [I.has.cell, List.getElem?_map, List.getElem?_range (by omega)]; exact congrArg some hV1
      have r0 : Rd1 vNat wo wo.heap.size A0 (stk ws K a) := own_rd1 (by have := I.rows a (by omega); rw [hV0] at this; exact this)
      have r1 : Rd1 vNat wo wo.heap.size A1 (stk ws K (a + 1)) := own_rd1 (by have := I.rows (a + 1) (by omega); rw [hV1] at this; exact this)
      have hKlen : K.length ≤ i := by
        have e : (wks ws K).length = (netTo ws i).length := by rw [I.net]
        rw [wks_len] at e; have := netTo_len ws i; omega
      have hl0 : (stk ws K a).length ≤ 400 := by have : (stk ws K a).length ≤ K.length := List.length_filter_le _ _; omega
      have hl1 : (stk ws K (a + 1)).length ≤ 400 := by have : (stk ws K (a + 1)).length ≤ K.length := List.length_filter_le _ _; omega
      have hg0 := topOf_ge (stk ws K a)
      have hg1 := topOf_ge (stk ws K (a + 1))
      have HI := Lib.hid I; clear I
      have HV0 := Lib.hid hV0; clear hV0
      have HV1 := Lib.hid hV1; clear hV1
      have HR0 := Lib.hid r0; clear r0
      have HR1 := Lib.hid r1; clear r1
      go_wp2
      have b0 : (wo.alloc (.cells #[.int .i64 x.kind, .int .i64 (a : Int), .string x.word] 26)).cell? ⟨wo.heap.size, 0, none⟩ = some (.int .i64 x.kind) := by go_simp
      have b1 : (wo.alloc (.cells #[.int .i64 x.kind, .int .i64 (a : Int), .string x.word] 26)).cell? ⟨wo.heap.size, 1, none⟩ = some (.int .i64 (a : Int)) := by go_simp
      have b2 : (wo.alloc (.cells #[.int .i64 x.kind, .int .i64 (a : Int), .string x.word] 26)).cell? ⟨wo.heap.size, 2, none⟩ = some (.string x.word) := by go_simp
      have hB3 : Below wo.heap.size wo (wo.alloc (.cells #[.int .i64 x.kind, .int .i64 (a : Int), .string x.word] 26)) := by go_grown
      have hz3 : wo.heap.size < (wo.alloc (.cells #[.int .i64 x.kind, .int .i64 (a : Int), .string x.word] 26)).heap.size := by simp
      generalize (wo.alloc (.cells #[.int .i64 x.kind, .int .i64 (a : Int), .string x.word] 26)) = W3 at *
      have hzT3 : w1.heap.size < W3.heap.size := by omega
      have hz03 : w.heap.size < W3.heap.size := by omega
      have t0 : W3.cell? ⟨w1.heap.size, a, none⟩ = some (.slice A0 (stk ws K a).length k0) := by rw [hB3.cell hzT]; exact s0
      have t1 : W3.cell? ⟨w1.heap.size, a + 1, none⟩ = some (.slice A1 (stk ws K (a + 1)).length k1) := by rw [hB3.cell hzT]; exact s1
      have hxc := fun (x' : Ext W3) => x'.cell
      refine wp_region_ext (by kernel_rfl) (by kernel_rfl) ?_
      go_big_quiet_step (fail)
      go_big_quiet_step (fail)
      go_big_quiet_step (fail)
      go_big_quiet_want
      go_big_quiet_op
      apply Exists.intro
      refine ⟨fun x' => ?_, ?_⟩
      · exact ext_same (unTop _ a _ _ rfl _ _ _ (by omega) (by rw [Ext.cell _ _ _ hzT3]; exact t0) (HR0.out.below (hB3.trans (x'.below.mono (by omega))) (by have := x'.below.size; omega)) hl0)
      go_big_quiet_on
      go_big_quiet_step (fail)
      go_big_quiet_step (fail)
      go_big_quiet_step (fail)
      go_big_quiet_step (fail)
      go_big_quiet_want
      go_big_quiet_op
      apply Exists.intro
      refine ⟨fun x' => ?_, ?_⟩
      · exact ext_same (unTop _ (a + 1) _ _ (by omega) _ _ _ (by omega) (by rw [Ext.cell _ _ _ hzT3]; exact t1) (HR1.out.below (hB3.trans (x'.below.mono (by omega))) (by have := x'.below.size; omega)) hl1)
      go_big_quiet_on
      go_big_quiet_step (fail)
      go_big_quiet_step (fail)
      refine wpQuiet_nil ?_
      intro w3 hw'
      have hb3 := ext_below hw'
      clear hw' hxc t0 t1
      have hb03 := bvia hB3 hb3
      have e1 : w3.cell? ⟨w.heap.size, 1, none⟩ = some (.slice (some ⟨ba, o, none⟩) n c) := by rw [hb03.cell hz0]; exact d1
      have f0 : w3.cell? ⟨wo.heap.size, 0, none⟩ = some (.int .i64 x.kind) := by rw [hb3.cell hz3]; exact b0
      have f1 : w3.cell? ⟨wo.heap.size, 1, none⟩ = some (.int .i64 (a : Int)) := by rw [hb3.cell hz3]; exact b1
      have f2 : w3.cell? ⟨wo.heap.size, 2, none⟩ = some (.string x.word) := by rw [hb3.cell hz3]; exact b2
      have q1 : w.heap.size < w3.heap.size := by have := hb03.size; omega
      have q2 : ba < w3.heap.size := by have := hb03.size; omega
      have q3 : wo.heap.size < w3.heap.size := by have := hb3.size; omega
      clear c1 c2 c3 s0 s1
      have eg := wkGuard
      have hSx : Hid (x.at_ = a) := HA.out
      have hst := HSt.out
      obtain ⟨l, hl⟩ : ∃ l, l = topOf (stk ws K a) := ⟨_, rfl⟩
      obtain ⟨r, hr⟩ : ∃ r, r = topOf (stk ws K (a + 1)) := ⟨_, rfl⟩
      rw [← hl] at hg0 hst ⊢
      rw [← hr] at hg1 hst ⊢
      have HLt := Lib.hid hl; clear hl
      have HRt := Lib.hid hr; clear hr
      rcases hst with ⟨h1, h2, h3, K1, t, K2, h4, h5, h6, h7, h8⟩ | ⟨hno, h8⟩
      · -- POP
        subst h1
        subst h5
        rw [Int.toNat_natCast] at h3
        obtain ⟨y, hy'⟩ : ∃ y, y = undoW x := ⟨_, rfl⟩
        have hy : ws[t]? = some y := by rw [hy']; exact h3
        have yk : Hid (y.kind = x.kind) := by rw [hy']; rfl
        have ya : Hid (y.at_ = a) := by rw [hy']; exact HA.out
        have yw : Hid (y.word = invW x.word) := by rw [hy']; rfl
        have H4 := Lib.hid h4; clear h3 h4
        have H6 := Lib.hid h6; clear h6
        have H7 := Lib.hid h7; clear h7
        have H8 := Lib.hid h8; clear h8 hy'
        have HY := Lib.hid hy
        obtain ⟨ba', o', hA', hb', y0, y1, y2⟩ := (HW.out.below hW (Nat.le_of_lt hz0)) _ y hy
        injection hA' with hA'; injection hA' with hA' hA2; subst hA'; subst hA2
        have hyn := lt_of_get hy
        rw [HL.out] at hyn
        have y0' : w3.cell? ⟨ba, o + t * 3, none⟩ = some (.int .i64 y.kind) := by rw [hb03.cell hb]; exact y0
        have y1' : w3.cell? ⟨ba, o + t * 3 + 1, none⟩ = some (.int .i64 y.at_) := by rw [hb03.cell hb]; exact y1
        have y2' : w3.cell? ⟨ba, o + t * 3 + 2, none⟩ = some (.string y.word) := by rw [hb03.cell hb]; exact y2
        clear hy y0 y1 y2 hb'
        rw [yk.out] at y0'
        rw [ya.out] at y1'
        rw [yw.out] at y2'
        have e0 : ∀ W : World, (binOp .eql 26 (.agg #[.int .i64 x.kind, .int .i64 (a : Int), .string (invW x.word)]) (.agg #[.int .i64 x.kind, .int .i64 (a : Int), .string (invW x.word)])).run Try.prog W = .ok (.bool true) W := fun W => by
          have := eql_wk ⟨x.kind, a, invW x.word⟩ ⟨x.kind, a, invW x.word⟩ W
          rwa [beq_self_eq_true] at this
        go_wp2
        have hxc := fun (x' : Ext w3) => x'.cell
        refine wp_region_ext (by kernel_rfl) (by kernel_rfl) ?_
        repeat (go_big_quiet_step ((go_at_call 42; exact ext_call (unUndoing _ _ _ _ hsx))))
        refine wpQuiet_nil ?_
        intro w4 hw'
        have hbx := bvia hb3 (ext_below hw')
        have hb4 := bvia hB3 hbx
        clear hw' hxc
        have g0 : w4.cell? ⟨wo.heap.size, 0, none⟩ = some (.int .i64 x.kind) := by rw [hbx.cell hz3]; exact b0
        have g1 : w4.cell? ⟨wo.heap.size, 1, none⟩ = some (.int .i64 (a : Int)) := by rw [hbx.cell hz3]; exact b1
        have g2 : w4.cell? ⟨wo.heap.size, 2, none⟩ = some (.string x.word) := by rw [hbx.cell hz3]; exact b2
        have hk4 := own_below HI.out.kept hb4
        have hH4 := HI.out.has.below hb4 hzT
        have hz4 : wo.heap.size < w4.heap.size := by have := hbx.size; omega
        clear e1 f0 f1 f2 q1 q2 q3 b0 b1 b2 hb3
        clear y0' y1' y2' e0
        have htK : t ∈ K := (List.mem_filter.1 (topOf_mem HLt.out.symm)).1
        have htn : t < n := by have := HI.out.lt t htK; omega
        have kt : w4.cell? ⟨w1.heap.size + 1, t, none⟩ = some (.bool (inK K t)) := by rw [hk4.cellAt t (by omega), List.getElem?_map, List.getElem?_range htn]; rfl
        have kf := hk4.frozenAt t
        have HK4 := Lib.hid hk4; clear hk4
        have HH4 := Lib.hid hH4; clear hH4
        have hpos0 : 1 ≤ (stk ws K a).length := by
          have : t ∈ stk ws K a := topOf_mem HLt.out.symm
          exact List.length_pos_of_mem this
        have hpos1 : 1 ≤ (stk ws K (a + 1)).length := by
          have : t ∈ stk ws K (a + 1) := topOf_mem HRt.out.symm
          exact List.length_pos_of_mem this
        have hcap0 : (stk ws K a).length ≤ k0 := by have := HI.out.rows a (by omega); rw [HV0.out] at this; exact (own_caps this).1
        have hcap1 : (stk ws K (a + 1)).length ≤ k1 := by have := HI.out.rows (a + 1) (by omega); rw [HV1.out] at this; exact (own_caps this).1
        go_wp2
        have hH5 : Has ((w4.setCell ⟨w1.heap.size + 1, t, none⟩ (.bool false)).alloc (.cells #[.int .i64 (a : Int), .int .i64 ((a : Int) + 1)] 3)) w1.heap.size 74 ((List.range 24).map V) := (HH4.out.far (by omega) _ _).alloc _
        have hP5 : Has ((w4.setCell ⟨w1.heap.size + 1, t, none⟩ (.bool false)).alloc (.cells #[.int .i64 (a : Int), .int .i64 ((a : Int) + 1)] 3)) w4.heap.size 3 [.int .i64 (a : Int), .int .i64 ((a : Int) + 1)] := by
          have := Has.new (w := w4.setCell ⟨w1.heap.size + 1, t, none⟩ (.bool false)) (arr := #[.int .i64 (a : Int), .int .i64 ((a : Int) + 1)]) (t := 3) (cs := [.int .i64 (a : Int), .int .i64 ((a : Int) + 1)]) rfl
          rw [World.size_setCell] at this
          exact this
        have hR5 : Hid (∀ q, q < 24 → ((w4.setCell ⟨w1.heap.size + 1, t, none⟩ (.bool false)).alloc (.cells #[.int .i64 (a : Int), .int .i64 ((a : Int) + 1)] 3)).ownsRow (w1.heap.size + 2) 3 1 (V q) (stk ws K q).length ((stk ws K q).map vNat)) := fun q hq => (ownsRow_setCell_below (own_below (HI.out.rows q hq) hb4) (by simp) _).alloc _
        have hK5 : Hid (((w4.setCell ⟨w1.heap.size + 1, t, none⟩ (.bool false)).alloc (.cells #[.int .i64 (a : Int), .int .i64 ((a : Int) + 1)] 3)).ownsRow (w1.heap.size + 1) 4 1 (.slice (some ⟨w1.heap.size + 1, 0, none⟩) n n) n (((List.range n).map fun j => Value.bool (inK K j)).set t (.bool false))) := ((HK4.out.stored t (.bool false)).1).alloc _
        have hO5 : Hid (Below w1.heap.size w1 ((w4.setCell ⟨w1.heap.size + 1, t, none⟩ (.bool false)).alloc (.cells #[.int .i64 (a : Int), .int .i64 ((a : Int) + 1)] 3))) := (((HI.out.old.trans (hb4.mono (by omega))).setCell (by simp) _).alloc (by simp; omega) _)
        have hz5 : w4.heap.size < ((w4.setCell ⟨w1.heap.size + 1, t, none⟩ (.bool false)).alloc (.cells #[.int .i64 (a : Int), .int .i64 ((a : Int) + 1)] 3)).heap.size := hP5.lt
        generalize ((w4.setCell ⟨w1.heap.size + 1, t, none⟩ (.bool false)).alloc (.cells #[.int .i64 (a : Int), .int .i64 ((a : Int) + 1)] 3)) = W5 at *
        go_loopw [72] (fun s72 wr => ∃ j : Nat, j ≤ 2 ∧ s72 = .int .i64 (j : Int) ∧ Has wr w1.heap.size 74 ((List.range 24).map (popTo V a j)) ∧ But w1.heap.size W5 wr) (fun s72 _ => 2 - (intOf s72).toNat)
        case atStart => exact ⟨0, by omega, rfl, by rw [popTo_zero]; exact hH5, But.refl _ _⟩
        case round =>
          clear hH5
          obtain ⟨j, hj, rfl, hH, hB⟩ := hrel
          by_cases hj2 : j < 2
          · have hj01 : j = 0 ∨ j = 1 := by omega
            rcases hj01 with rfl | rfl
            · -- place a
              have c0 : wr.cell? ⟨w4.heap.size, 0, none⟩ = some (.int .i64 (a : Int)) := by rw [hB.cell hP5.lt (by omega)]; exact hP5.cell 0
              have m0 : wr.cell? ⟨w1.heap.size, a, none⟩ = some (.slice A0 (stk ws K (a)).length k0) := by rw [has_at hH (by omega)]; unfold popTo; rw [if_neg (by omega)]; exact congrArg some HV0.out
              have m1 := hH.free (a)
              have hpv : Hid (popV (V (a)) = .slice A0 ((stk ws K (a)).length - 1) k0) := by
                show popV (V (a)) = _
                rw [HV0.out]; rfl
              have HH := Lib.hid hH; clear hH
              have HB := Lib.hid hB; clear hB
              go_wp2
              go_region
              all_goals go_wp2
              all_goals go_roundw
              case rel =>
                refine ⟨0 + 1, by omega, by go_num, ?_, HB.out.trans (But.set _ _ _ _).drew⟩
                rw [← popTo_set0, hpv.out]
                exact (HH.out.set (a) _).drew
              case measure => first | (simp [intOf]; done) | (simp [intOf]; omega)
            · -- place a + 1
              have c0 : wr.cell? ⟨w4.heap.size, 1, none⟩ = some (.int .i64 ((a : Int) + 1)) := by rw [hB.cell hP5.lt (by omega)]; exact hP5.cell 1
              have m0 : wr.cell? ⟨w1.heap.size, a + 1, none⟩ = some (.slice A1 (stk ws K (a + 1)).length k1) := by rw [has_at hH (by omega)]; unfold popTo; rw [if_neg (by omega)]; exact congrArg some HV1.out
              have m1 := hH.free (a + 1)
              have hpv : Hid (popV (V (a + 1)) = .slice A1 ((stk ws K (a + 1)).length - 1) k1) := by
                show popV (V (a + 1)) = _
                rw [HV1.out]; rfl
              have HH := Lib.hid hH; clear hH
              have HB := Lib.hid hB; clear hB
              go_wp2
              go_region
              all_goals go_wp2
              all_goals go_roundw
              case rel =>
                refine ⟨1 + 1, by omega, by go_num, ?_, HB.out.trans (But.set _ _ _ _).drew⟩
                rw [← popTo_set1, hpv.out]
                exact (HH.out.set (a + 1) _).drew
              case measure => first | (simp [intOf]; done) | (simp [intOf]; omega)
          · obtain rfl : j = 2 := by omega
            have hinv : NetInv ws w1.heap.size n w1 (i + 1) (K1 ++ K2) (fun q => if q = a ∨ q = a + 1 then popV (V q) else V q) wr := by
              refine netInv_pop HI.out HX.out H4.out H6.out H7.out H8.out (by rw [← popTo_two]; exact hH) (fun q hq => hB.own (hR5.out q hq) ?_) (hB.own hK5.out ?_) (hO5.out.trans (hB.below (Nat.le_refl _) (by omega)))
              · intro e; have := ((hR5.out q hq).lt _ e).1; omega
              · simp [Value.ownBlock]
            have HINV := Lib.hid hinv; clear hinv hH hB
            go_wp2
            go_roundw
            case rel => exact ⟨i + 1, K1 ++ K2, _, by omega, by go_num, HINV.out⟩
            case measure => first | (simp [intOf]; done) | (simp [intOf]; omega)
      · -- PUSH
        have H8 := Lib.hid h8; clear h8
        by_cases hlr : l = r
        · subst hlr
          by_cases hl0 : 0 ≤ l
          · obtain ⟨t, rfl⟩ := Int.eq_ofNat_of_zero_le hl0
            have htm : t ∈ K := (List.mem_filter.1 (topOf_mem HLt.out.symm)).1
            obtain ⟨y, hy⟩ := get_of_lt (hKl t htm)
            have hyx : (y == undoW x) = false := by
              rw [beq_eq_false_iff_ne]
              rintro rfl
              exact hno ⟨rfl, hl0, by rw [Int.toNat_natCast]; exact hy⟩
            have HY := Lib.hid hy
            obtain ⟨ba', o', hA', hb', y0, y1, y2⟩ := (HW.out.below hW (Nat.le_of_lt hz0)) _ y hy
            injection hA' with hA'; injection hA' with hA' hA2; subst hA'; subst hA2
            have hyn := lt_of_get hy
            rw [HL.out] at hyn
            have y0' : w3.cell? ⟨ba, o + t * 3, none⟩ = some (.int .i64 y.kind) := by rw [hb03.cell hb]; exact y0
            have y1' : w3.cell? ⟨ba, o + t * 3 + 1, none⟩ = some (.int .i64 y.at_) := by rw [hb03.cell hb]; exact y1
            have y2' : w3.cell? ⟨ba, o + t * 3 + 2, none⟩ = some (.string y.word) := by rw [hb03.cell hb]; exact y2
            clear hy y0 y1 y2 hb'
            have e0 : ∀ W : World, (binOp .eql 26 (.agg #[.int .i64 y.kind, .int .i64 y.at_, .string y.word]) (.agg #[.int .i64 x.kind, .int .i64 (a : Int), .string (invW x.word)])).run Try.prog W = .ok (.bool false) W := fun W => by
              have := eql_wk y (undoW x) W
              rw [hyx] at this
              rw [← HA.out]; exact this
            clear hno
            go_wp2
            have hxc := fun (x' : Ext w3) => x'.cell
            refine wp_region_ext (by kernel_rfl) (by kernel_rfl) ?_
            repeat (go_big_quiet_step ((go_at_call 42; exact ext_call (unUndoing _ _ _ _ hsx))))
            refine wpQuiet_nil ?_
            intro w4 hw'
            have hbx := bvia hb3 (ext_below hw')
            have hb4 := bvia hB3 hbx
            clear hw' hxc
            have g0 : w4.cell? ⟨wo.heap.size, 0, none⟩ = some (.int .i64 x.kind) := by rw [hbx.cell hz3]; exact b0
            have g1 : w4.cell? ⟨wo.heap.size, 1, none⟩ = some (.int .i64 (a : Int)) := by rw [hbx.cell hz3]; exact b1
            have g2 : w4.cell? ⟨wo.heap.size, 2, none⟩ = some (.string x.word) := by rw [hbx.cell hz3]; exact b2
            have hk4 := own_below HI.out.kept hb4
            have hH4 := HI.out.has.below hb4 hzT
            have hz4 : wo.heap.size < w4.heap.size := by have := hbx.size; omega
            clear e1 f0 f1 f2 q1 q2 q3 b0 b1 b2 hb3
            have kt : w4.cell? ⟨w1.heap.size + 1, i, none⟩ = some (.bool (inK K i)) := by rw [hk4.cellAt i (by omega), List.getElem?_map, List.getElem?_range hlt]; rfl
            have kf := hk4.frozenAt i
            have HK4 := Lib.hid hk4; clear hk4
            have HH4 := Lib.hid hH4; clear hH4
            go_wp2
            have hH5 : Has (w4.setCell ⟨w1.heap.size + 1, i, none⟩ (.bool true)) w1.heap.size 74 ((List.range 24).map V) := HH4.out.far (by omega) _ _
            have hR5 : Hid (∀ q, q < 24 → (w4.setCell ⟨w1.heap.size + 1, i, none⟩ (.bool true)).ownsRow (w1.heap.size + 2) 3 1 (V q) (stk ws K q).length ((stk ws K q).map vNat)) := fun q hq => ownsRow_setCell_below (own_below (HI.out.rows q hq) hb4) (by simp) _
            have hK5 : Hid ((w4.setCell ⟨w1.heap.size + 1, i, none⟩ (.bool true)).ownsRow (w1.heap.size + 1) 4 1 (.slice (some ⟨w1.heap.size + 1, 0, none⟩) n n) n (((List.range n).map fun j => Value.bool (inK K j)).set i (.bool true))) := (HK4.out.stored i (.bool true)).1
            have hO5 : Hid (Below w1.heap.size w1 (w4.setCell ⟨w1.heap.size + 1, i, none⟩ (.bool true))) := ((HI.out.old.trans (hb4.mono (by omega))).setCell (by simp) _)
            have p0 : (w4.setCell ⟨w1.heap.size + 1, i, none⟩ (.bool true)).cell? ⟨wo.heap.size, 1, none⟩ = some (.int .i64 (a : Int)) := by rw [World.cell?_setCell_other _ _ _ _ (by intro e; injection e; omega)]; exact g1
            have hz5 : wo.heap.size < (w4.setCell ⟨w1.heap.size + 1, i, none⟩ (.bool true)).heap.size := by rw [World.size_setCell]; exact hz4
            clear kt kf g0 g1 g2
            generalize (w4.setCell ⟨w1.heap.size + 1, i, none⟩ (.bool true)) = W5 at *
            have m0 : W5.cell? ⟨w1.heap.size, a, none⟩ = some (.slice A0 (stk ws K a).length k0) := by rw [has_at hH5 (by omega)]; exact congrArg some HV0.out
            have m1 : W5.cell? ⟨w1.heap.size, a + 1, none⟩ = some (.slice A1 (stk ws K (a + 1)).length k1) := by rw [has_at hH5 (by omega)]; exact congrArg some HV1.out
            have n0 := hH5.free a
            have n1 := hH5.free (a + 1)
            have P : Hid (PushSt ws w1.heap.size n w1 i K V a wo.heap.size none none W5) := {
              has := hH5
              rows := fun q hq _ _ => hR5.out q hq
              row0 := fun v hv => by cases hv
              row1 := fun v hv => by cases hv
              two := fun v0 v1 h0 h1 => by cases h0
              kept := hK5.out
              old := hO5.out
              far := fun q hq g hg => (HI.out.rows q hq).lt g hg
              apart := HI.out.apart
              low := hT1
              big := hz5
              box := p0 }
            have HH5 := Lib.hid hH5; clear hH5
            have i1 : (0 : Int) ≤ (a : Int) := by omega
            have i2 : (a : Int) < 24 := by omega
            have i3 : IntKind.i64.wrap ((a : Int) + 1) = (a : Int) + 1 := IntWalk.i64_in _ (by omega)
            have i4 : (0 : Int) ≤ (a : Int) + 1 := by omega
            have i5 : (a : Int) + 1 < 24 := by omega
            have i6 : ((a : Int) + 1).toNat = a + 1 := by omega
            have z5 : w1.heap.size < W5.heap.size := by omega
            have P6 := P.out.drew
            have ha24 : a + 1 < 24 := by omega
            have hTh : w1.heap.size < wo.heap.size := hzT
            have hl0' : (stk ws K a).length + 1 ≤ 1000000000 := by omega
            have hl1' : (stk ws K (a + 1)).length + 1 ≤ 1000000000 := by omega
            have hfa : ∀ g, (Value.slice A0 (stk ws K a).length k0).ownBlock = some g → g < wo.heap.size := fun g hg => (P.out.far a (Nat.lt_of_succ_lt ha24) g (by rw [HV0.out]; exact hg)).2
            have h8' : (8 : Nat) ≤ 100 := by omega
            have h1' : (0 : Nat) < 1 := by omega
            refine wp_region_noPanic ?_
            refine wp_region_B (fun b w' => w'.cell? ⟨wo.heap.size, 1, none⟩ = some (.int .i64 (a : Int)) ∧ (b = false → w'.cell? ⟨w1.heap.size, a, none⟩ = some (.slice A0 (stk ws K a).length k0) ∧ w'.cell? ⟨w1.heap.size, a + 1, none⟩ = some (.slice A1 (stk ws K (a + 1)).length k1))) 21 (by kernel_rfl) ?_
            clear m0 m1 p0 n0 n1 hR5 hK5 hO5
            have z6 : w1.heap.size < W5.drew.heap.size := z5
            generalize W5.drew = W6 at *
            have hS6 : (fun b w' => w'.cell? ⟨wo.heap.size, 1, none⟩ = some (.int .i64 (a : Int)) ∧ (b = false → w'.cell? ⟨w1.heap.size, a, none⟩ = some (.slice A0 (stk ws K a).length k0) ∧ w'.cell? ⟨w1.heap.size, a + 1, none⟩ = some (.slice A1 (stk ws K (a + 1)).length k1))) false W6 := ⟨P6.box, fun _ => ⟨(P6.at_ (Nat.lt_of_succ_lt ha24)).trans (congrArg some HV0.out), (P6.at_ ha24).trans (congrArg some HV1.out)⟩⟩
            refine wpAnyB_take (i := 0) (oi := _) (v := ?vv1) (fun w' => w'.cell? ⟨wo.heap.size, 1, none⟩ = some (.int .i64 (a : Int))) rfl (by kernel_rfl) (by kernel_rfl) (by kernel_rfl) (by kernel_rfl) (by rfl) (fun _ h => h.1) (.inl fun _ h => h.1) (fun _ _ _ h => h) (.inl ⟨by rfl, ?hy1⟩) hS6 ?_
            case hy1 =>
              intro w' hSw
              try dsimp only at hSw
              go_simp
              all_goals with_reducible rfl
            try simp only [Act.put, List.setIfInBounds_toArray]
            refine wpAnyB_take (i := 1) (oi := _) (v := ?vv2) (fun w' => w'.cell? ⟨wo.heap.size, 1, none⟩ = some (.int .i64 (a : Int))) rfl (by kernel_rfl) (by kernel_rfl) (by kernel_rfl) (by kernel_rfl) (by rfl) (fun _ h => h.1) (.inl fun _ h => h.1) (fun _ _ _ h => h) (.inl ⟨by rfl, ?hy2⟩) hS6 ?_
            case hy2 =>
              intro w' hSw
              try dsimp only at hSw
              go_simp
              all_goals with_reducible rfl
            try simp only [Act.put]
            refine wpAnyB_take (i := 2) (oi := _) (v := ?vv3) (fun w' => w'.cell? ⟨wo.heap.size, 1, none⟩ = some (.int .i64 (a : Int))) rfl (by kernel_rfl) (by kernel_rfl) (by kernel_rfl) (by kernel_rfl) (by rfl) (fun _ h => h.1) (.inl fun _ h => h.1) (fun _ _ _ h => h) (.inl ⟨by rfl, ?hy3⟩) hS6 ?_
            case hy3 =>
              intro w' hSw
              try dsimp only at hSw
              go_simp
              all_goals with_reducible rfl
            try simp only [Act.put]
            refine wpAnyB_take (i := 3) (oi := _) (v := ?vv4) (fun w' => w'.cell? ⟨wo.heap.size, 1, none⟩ = some (.int .i64 (a : Int))) rfl (by kernel_rfl) (by kernel_rfl) (by kernel_rfl) (by kernel_rfl) (by rfl) (fun _ h => h.1) (.inl fun _ h => h.1) (fun _ _ _ h => h) (.inl ⟨by rfl, ?hy4⟩) hS6 ?_
            case hy4 =>
              intro w' hSw
              try dsimp only at hSw
              go_simp
              all_goals with_reducible rfl
            try simp only [Act.put]
            refine wpAnyB_take (i := 4) (oi := _) (v := ?vv5) (fun w' => w'.cell? ⟨wo.heap.size, 1, none⟩ = some (.int .i64 (a : Int))) rfl (by kernel_rfl) (by kernel_rfl) (by kernel_rfl) (by kernel_rfl) (by rfl) (fun _ h => h.1) (.inl fun _ h => h.1) (fun _ _ _ h => h) (.inl ⟨by rfl, ?hy5⟩) hS6 ?_
            case hy5 =>
              intro w' hSw
              try dsimp only at hSw
              go_simp
              all_goals with_reducible rfl
            try simp only [Act.put]
            refine wpAnyB_take (i := 5) (oi := _) (v := ?vv6) (fun w' => w'.cell? ⟨wo.heap.size, 1, none⟩ = some (.int .i64 (a : Int))) rfl (by kernel_rfl) (by kernel_rfl) (by kernel_rfl) (by kernel_rfl) (by rfl) (fun _ h => h.1) (.inl fun _ h => h.1) (fun _ _ _ h => h) (.inl ⟨by rfl, ?hy6⟩) hS6 ?_
            case hy6 =>
              intro w' hSw
              try dsimp only at hSw
              go_simp
              all_goals with_reducible rfl
            try simp only [Act.put]
            refine wpAnyB_take (i := 6) (oi := _) (v := ?vv7) (fun w' => w'.cell? ⟨wo.heap.size, 1, none⟩ = some (.int .i64 (a : Int))) rfl (by kernel_rfl) (by kernel_rfl) (by kernel_rfl) (by kernel_rfl) (by rfl) (fun _ h => h.1) (.inl fun _ h => h.1) (fun _ _ _ h => h) (.inl ⟨by rfl, ?hy7⟩) hS6 ?_
            case hy7 =>
              intro w' hSw
              try dsimp only at hSw
              go_simp
              all_goals with_reducible rfl
            try simp only [Act.put]
            refine wpAnyB_take (i := 7) (oi := _) (v := ?vv8) (fun w' => w'.cell? ⟨wo.heap.size, 1, none⟩ = some (.int .i64 (a : Int))) rfl (by kernel_rfl) (by kernel_rfl) (by kernel_rfl) (by kernel_rfl) (by rfl) (fun _ h => h.1) (.inl fun _ h => h.1) (fun _ _ _ h => h) (.inl ⟨by rfl, ?hy8⟩) hS6 ?_
            case hy8 =>
              intro w' hSw
              try dsimp only at hSw
              go_simp
              all_goals with_reducible rfl
            try simp only [Act.put]
            refine wpAnyB_take (i := 8) (oi := _) (v := ?vv9) (fun w' => w'.cell? ⟨wo.heap.size, 1, none⟩ = some (.int .i64 (a : Int)) ∧ w'.cell? ⟨w1.heap.size, a, none⟩ = some (.slice A0 (stk ws K a).length k0) ∧ w'.cell? ⟨w1.heap.size, a + 1, none⟩ = some (.slice A1 (stk ws K (a + 1)).length k1)) rfl (by kernel_rfl) (by kernel_rfl) (by kernel_rfl) (by kernel_rfl) (by rfl) (fun _ h => ⟨h.1, h.2 rfl⟩) (.inr (by kernel_rfl)) (fun _ _ _ h => h) (.inl ⟨by rfl, ?hy9⟩) hS6 ?_
            case hy9 =>
              intro w' hSw
              try dsimp only at hSw
              go_simp
              all_goals with_reducible rfl
            try simp only [Act.put]
            refine wpAnyB_take (i := 9) (oi := _) (v := ?vv10) (fun w' => w'.cell? ⟨wo.heap.size, 1, none⟩ = some (.int .i64 (a : Int))) rfl (by kernel_rfl) (by kernel_rfl) (by kernel_rfl) (by kernel_rfl) (by rfl) (fun _ h => h.1) (.inl fun _ h => h.1) (fun _ _ _ h => h) (.inl ⟨by rfl, ?hy10⟩) hS6 ?_
            case hy10 =>
              intro w' hSw
              try dsimp only at hSw
              go_simp
              all_goals with_reducible rfl
            try simp only [Act.put]
            refine wpAnyB_take (i := 12) (oi := _) (v := ?vv11) (fun w' => w'.cell? ⟨wo.heap.size, 1, none⟩ = some (.int .i64 (a : Int))) rfl (by kernel_rfl) (by kernel_rfl) (by kernel_rfl) (by kernel_rfl) (by rfl) (fun _ h => h.1) (.inl fun _ h => h.1) (fun _ _ _ h => h) (.inl ⟨by rfl, ?hy11⟩) hS6 ?_
            case hy11 =>
              intro w' hSw
              try dsimp only at hSw
              go_simp
              all_goals with_reducible rfl
            try simp only [Act.put]
            refine wpAnyB_take (i := 13) (oi := _) (v := ?vv12) (fun w' => w'.cell? ⟨wo.heap.size, 1, none⟩ = some (.int .i64 (a : Int))) rfl (by kernel_rfl) (by kernel_rfl) (by kernel_rfl) (by kernel_rfl) (by rfl) (fun _ h => h.1) (.inl fun _ h => h.1) (fun _ _ _ h => h) (.inl ⟨by rfl, ?hy12⟩) hS6 ?_
            case hy12 =>
              intro w' hSw
              try dsimp only at hSw
              go_simp
              all_goals with_reducible rfl
            try simp only [Act.put]
            refine wpAnyB_take (i := 14) (oi := _) (v := ?vv13) (fun w' => w'.cell? ⟨wo.heap.size, 1, none⟩ = some (.int .i64 (a : Int))) rfl (by kernel_rfl) (by kernel_rfl) (by kernel_rfl) (by kernel_rfl) (by rfl) (fun _ h => h.1) (.inl fun _ h => h.1) (fun _ _ _ h => h) (.inl ⟨by rfl, ?hy13⟩) hS6 ?_
            case hy13 =>
              intro w' hSw
              try dsimp only at hSw
              go_simp
              all_goals with_reducible rfl
            try simp only [Act.put]
            refine wpAnyB_take (i := 15) (oi := _) (v := ?vv14) (fun w' => w'.cell? ⟨wo.heap.size, 1, none⟩ = some (.int .i64 (a : Int))) rfl (by kernel_rfl) (by kernel_rfl) (by kernel_rfl) (by kernel_rfl) (by rfl) (fun _ h => h.1) (.inl fun _ h => h.1) (fun _ _ _ h => h) (.inl ⟨by rfl, ?hy14⟩) hS6 ?_
            case hy14 =>
              intro w' hSw
              try dsimp only at hSw
              go_simp
              all_goals with_reducible rfl
            try simp only [Act.put]
            refine wpAnyB_take (i := 16) (oi := _) (v := ?vv15) (fun w' => w'.cell? ⟨wo.heap.size, 1, none⟩ = some (.int .i64 (a : Int)) ∧ w'.cell? ⟨w1.heap.size, a, none⟩ = some (.slice A0 (stk ws K a).length k0) ∧ w'.cell? ⟨w1.heap.size, a + 1, none⟩ = some (.slice A1 (stk ws K (a + 1)).length k1)) rfl (by kernel_rfl) (by kernel_rfl) (by kernel_rfl) (by kernel_rfl) (by rfl) (fun _ h => ⟨h.1, h.2 rfl⟩) (.inr (by kernel_rfl)) (fun _ _ _ h => h) (.inl ⟨by rfl, ?hy15⟩) hS6 ?_
            case hy15 =>
              intro w' hSw
              try dsimp only at hSw
              go_simp
              all_goals with_reducible rfl
            try simp only [Act.put]
            refine wpAnyB_take (i := 17) (oi := _) (v := ?vv16) (fun w' => w'.cell? ⟨wo.heap.size, 1, none⟩ = some (.int .i64 (a : Int))) rfl (by kernel_rfl) (by kernel_rfl) (by kernel_rfl) (by kernel_rfl) (by rfl) (fun _ h => h.1) (.inl fun _ h => h.1) (fun _ _ _ h => h) (.inl ⟨by rfl, ?hy16⟩) hS6 ?_
            case hy16 =>
              intro w' hSw
              try dsimp only at hSw
              go_simp
              all_goals with_reducible rfl
            try simp only [Act.put]
            refine wpAnyB_two (i := 10) (j := 18) false rfl rfl (by kernel_rfl) (by kernel_rfl) (by kernel_rfl) ?_ ?_
            · intro KK hKK
              go_simp
              have P7 := PushSt.alloc P6 (.cells #[.int .i64 (i : Int)] 3)
              have tA : (World.alloc W6 (.cells #[.int .i64 (i : Int)] 3)).cell? ⟨W6.heap.size, 0, none⟩ = some (vNat i) := by go_simp; all_goals rfl
              have zW7 : W6.heap.size < (World.alloc W6 (.cells #[.int .i64 (i : Int)] 3)).heap.size := by simp
              generalize (World.alloc W6 (.cells #[.int .i64 (i : Int)] 3)) = W7 at *
              refine hKK.out _ _ ⟨P7.box, fun _ => ⟨(P7.at_ (Nat.lt_of_succ_lt ha24)).trans (congrArg some HV0.out), (P7.at_ ha24).trans (congrArg some HV1.out)⟩⟩ ?_
              clear hKK KK
              try simp only [Act.put, List.setIfInBounds_toArray, List.set_cons_zero, List.set_cons_succ]
              refine wpAnyB_two (i := 11) (j := 18) false rfl rfl (by kernel_rfl) (by kernel_rfl) (by kernel_rfl) ?_ ?_
              · intro KK hKK
                refine step_appN rfl (.tmp 99) (.tmp 101) _ rfl (w1.heap.size + 2) 3 (.int .i64 0) 1 8 Try.underlying29 infoInt rfl h1' h8' (.slice A0 (stk ws K a).length k0) (stk ws K a).length ((stk ws K a).map vNat) rfl (PushSt.rowA P7 ha24 HV0.out) _ 1 1 [vNat i] rfl rfl (news1 tA) (one_int _ _) hl0' (Nat.le_trans P7.low (Nat.le_of_lt P7.big)) ?_
                intro v0 W8 ho hg hn hr
                clear hn
                obtain ⟨v0A, v0k, v0e⟩ := own_form ho
                subst v0e
                have P8 := PushSt.appA P7 ha24 HV0.out hg ho hr
                clear ho hr hg
                refine hKK.out _ _ ⟨P8.box, fun _ => ⟨(P8.at_ (Nat.lt_of_succ_lt ha24)).trans (congrArg some HV0.out), (P8.at_ ha24).trans (congrArg some HV1.out)⟩⟩ ?_
                clear hKK KK
                try simp only [Act.put, List.setIfInBounds_toArray]
                refine wpAnyB_take (i := 20) (oi := _) (v := ?vv17) (fun w' => w'.cell? ⟨wo.heap.size, 1, none⟩ = some (.int .i64 (a : Int))) rfl (by kernel_rfl) (by kernel_rfl) (by kernel_rfl) (by kernel_rfl) (by rfl) (fun _ h => h.1) (.inl fun _ h => h.1) (fun _ _ _ h => h) (.inl ⟨by rfl, ?hy17⟩) ⟨P8.box, fun _ => ⟨(P8.at_ (Nat.lt_of_succ_lt ha24)).trans (congrArg some HV0.out), (P8.at_ ha24).trans (congrArg some HV1.out)⟩⟩ ?_
                case hy17 =>
                  intro w' hSw
                  try dsimp only at hSw
                  go_simp
                  all_goals with_reducible rfl
                try simp only [Act.put]
                refine wpAnyB_one (i := 18) false rfl (by kernel_rfl) (by kernel_rfl) ?_
                intro KK hKK
                go_simp
                have P9 := PushSt.alloc P8 (.cells #[.int .i64 (i : Int)] 3)
                have tB : (World.alloc W8 (.cells #[.int .i64 (i : Int)] 3)).cell? ⟨W8.heap.size, 0, none⟩ = some (vNat i) := by go_simp; all_goals rfl
                have zW9 : W8.heap.size < (World.alloc W8 (.cells #[.int .i64 (i : Int)] 3)).heap.size := by simp
                generalize (World.alloc W8 (.cells #[.int .i64 (i : Int)] 3)) = W9 at *
                refine hKK.out _ _ ⟨P9.box, fun _ => ⟨(P9.at_ (Nat.lt_of_succ_lt ha24)).trans (congrArg some HV0.out), (P9.at_ ha24).trans (congrArg some HV1.out)⟩⟩ ?_
                clear hKK KK
                try simp only [Act.put, List.setIfInBounds_toArray, List.set_cons_zero, List.set_cons_succ]
                refine wpAnyB_one (i := 19) false rfl (by kernel_rfl) (by kernel_rfl) ?_
                intro KK hKK
                refine step_appN rfl (.tmp 107) (.tmp 109) _ rfl (w1.heap.size + 2) 3 (.int .i64 0) 1 8 Try.underlying29 infoInt rfl h1' h8' (.slice A1 (stk ws K (a + 1)).length k1) (stk ws K (a + 1)).length ((stk ws K (a + 1)).map vNat) rfl (PushSt.rowB P9 ha24 HV1.out) _ 1 1 [vNat i] rfl rfl (news1 tB) (one_int _ _) hl1' (Nat.le_trans P9.low (Nat.le_of_lt P9.big)) ?_
                intro v1 W10 ho hg hn hr
                clear hn
                obtain ⟨v1A, v1k, v1e⟩ := own_form ho
                subst v1e
                have PD := PushSt.appB P9 ha24 HV1.out hg ho hr
                clear ho hr hg
                refine hKK.out _ _ ⟨PD.box, fun _ => ⟨(PD.at_ (Nat.lt_of_succ_lt ha24)).trans (congrArg some HV0.out), (PD.at_ ha24).trans (congrArg some HV1.out)⟩⟩ ?_
                clear hKK KK
                try simp only [Act.put, List.setIfInBounds_toArray]
                refine wpAnyB_one (i := 21) true rfl (by kernel_rfl) (by kernel_rfl) ?_
                intro KK hKK
                have y1 := (PD.at_ (Nat.lt_of_succ_lt ha24))
                have y2 := (PD.at_ ha24)
                have y3 := PD.frz a
                have y4 := PD.frz (a + 1)
                have y5 := PD.box
                have y6 := PD.has.lt
                go_simp
                refine hKK.out _ _ ⟨(World.cell?_setCell_far _ _ _ _ (Nat.ne_of_lt hTh)).trans PD.box, fun h => by cases h⟩ ?_
                clear hKK KK
                try simp only [Act.put, List.setIfInBounds_toArray, List.set_cons_zero, List.set_cons_succ]
                refine wpAnyB_one (i := 22) true rfl (by kernel_rfl) (by kernel_rfl) ?_
                intro KK hKK
                go_simp
                refine hKK.out _ _ ⟨(World.cell?_setCell_far _ _ _ _ (Nat.ne_of_lt hTh)).trans PD.box, fun h => by cases h⟩ ?_
                clear hKK KK
                try simp only [Act.put, List.setIfInBounds_toArray, List.set_cons_zero, List.set_cons_succ]
                refine wpAnyB_one (i := 23) true rfl (by kernel_rfl) (by kernel_rfl) ?_
                intro KK hKK
                go_simp
                refine hKK.out _ _ ⟨(World.cell?_setCell_far _ _ _ _ (Nat.ne_of_lt hTh)).trans ((World.cell?_setCell_far _ _ _ _ (Nat.ne_of_lt hTh)).trans PD.box), fun h => by cases h⟩ ?_
                clear hKK KK
                try simp only [Act.put, List.setIfInBounds_toArray, List.set_cons_zero, List.set_cons_succ]
                refine wpAnyB_done (by kernel_rfl) (NoPanic.normal ?_) _
                clear y1 y2 y3 y4 y5 y6 i1 i2 i3 i4 i5 i6
                have hEND := Lib.hid (PushSt.done PD HI.out rfl HX.out HA.out ha24 H8.out)
                clear PD
                go_wp2
                go_roundw
                case rel => exact ⟨i + 1, K ++ [i], _, by omega, by go_num, hEND.out⟩
                case measure => first | (simp [intOf]; done) | (simp [intOf]; omega)
              · intro KK hKK
                go_simp
                have P8 := PushSt.alloc P7 (.cells #[.int .i64 (i : Int)] 3)
                have tB : (World.alloc W7 (.cells #[.int .i64 (i : Int)] 3)).cell? ⟨W7.heap.size, 0, none⟩ = some (vNat i) := by go_simp; all_goals rfl
                have zW8 : W7.heap.size < (World.alloc W7 (.cells #[.int .i64 (i : Int)] 3)).heap.size := by simp
                have tA' := (World.cell?_alloc_lt W7 (.cells #[.int .i64 (i : Int)] 3) ⟨W6.heap.size, 0, none⟩ (by exact zW7)).trans tA
                generalize (World.alloc W7 (.cells #[.int .i64 (i : Int)] 3)) = W8 at *
                refine hKK.out _ _ ⟨P8.box, fun _ => ⟨(P8.at_ (Nat.lt_of_succ_lt ha24)).trans (congrArg some HV0.out), (P8.at_ ha24).trans (congrArg some HV1.out)⟩⟩ ?_
                clear hKK KK
                try simp only [Act.put, List.setIfInBounds_toArray, List.set_cons_zero, List.set_cons_succ]
                refine wpAnyB_one (i := 11) false rfl (by kernel_rfl) (by kernel_rfl) ?_
                intro KK hKK
                refine step_appN rfl (.tmp 99) (.tmp 101) _ rfl (w1.heap.size + 2) 3 (.int .i64 0) 1 8 Try.underlying29 infoInt rfl h1' h8' (.slice A0 (stk ws K a).length k0) (stk ws K a).length ((stk ws K a).map vNat) rfl (PushSt.rowA P8 ha24 HV0.out) _ 1 1 [vNat i] rfl rfl (news1 tA') (one_int _ _) hl0' (Nat.le_trans P8.low (Nat.le_of_lt P8.big)) ?_
                intro v0 W9 ho hg hn hr
                clear hn
                obtain ⟨v0A, v0k, v0e⟩ := own_form ho
                subst v0e
                have P9 := PushSt.appA P8 ha24 HV0.out hg ho hr
                have tB9 := tmp_keep hg zW8 (fun g e => Nat.lt_trans (hfa g e) P7.big) tB
                clear ho hr hg
                refine hKK.out _ _ ⟨P9.box, fun _ => ⟨(P9.at_ (Nat.lt_of_succ_lt ha24)).trans (congrArg some HV0.out), (P9.at_ ha24).trans (congrArg some HV1.out)⟩⟩ ?_
                clear hKK KK
                try simp only [Act.put, List.setIfInBounds_toArray]
                refine wpAnyB_take (i := 20) (oi := _) (v := ?vv20) (fun w' => w'.cell? ⟨wo.heap.size, 1, none⟩ = some (.int .i64 (a : Int))) rfl (by kernel_rfl) (by kernel_rfl) (by kernel_rfl) (by kernel_rfl) (by rfl) (fun _ h => h.1) (.inl fun _ h => h.1) (fun _ _ _ h => h) (.inl ⟨by rfl, ?hy20⟩) ⟨P9.box, fun _ => ⟨(P9.at_ (Nat.lt_of_succ_lt ha24)).trans (congrArg some HV0.out), (P9.at_ ha24).trans (congrArg some HV1.out)⟩⟩ ?_
                case hy20 =>
                  intro w' hSw
                  try dsimp only at hSw
                  go_simp
                  all_goals with_reducible rfl
                try simp only [Act.put]
                refine wpAnyB_one (i := 19) false rfl (by kernel_rfl) (by kernel_rfl) ?_
                intro KK hKK
                refine step_appN rfl (.tmp 107) (.tmp 109) _ rfl (w1.heap.size + 2) 3 (.int .i64 0) 1 8 Try.underlying29 infoInt rfl h1' h8' (.slice A1 (stk ws K (a + 1)).length k1) (stk ws K (a + 1)).length ((stk ws K (a + 1)).map vNat) rfl (PushSt.rowB P9 ha24 HV1.out) _ 1 1 [vNat i] rfl rfl (news1 tB9) (one_int _ _) hl1' (Nat.le_trans P9.low (Nat.le_of_lt P9.big)) ?_
                intro v1 W10 ho hg hn hr
                clear hn
                obtain ⟨v1A, v1k, v1e⟩ := own_form ho
                subst v1e
                have PD := PushSt.appB P9 ha24 HV1.out hg ho hr
                clear ho hr hg
                refine hKK.out _ _ ⟨PD.box, fun _ => ⟨(PD.at_ (Nat.lt_of_succ_lt ha24)).trans (congrArg some HV0.out), (PD.at_ ha24).trans (congrArg some HV1.out)⟩⟩ ?_
                clear hKK KK
                try simp only [Act.put]
                refine wpAnyB_one (i := 21) true rfl (by kernel_rfl) (by kernel_rfl) ?_
                intro KK hKK
                have y1 := (PD.at_ (Nat.lt_of_succ_lt ha24))
                have y2 := (PD.at_ ha24)
                have y3 := PD.frz a
                have y4 := PD.frz (a + 1)
                have y5 := PD.box
                have y6 := PD.has.lt
                go_simp
                refine hKK.out _ _ ⟨(World.cell?_setCell_far _ _ _ _ (Nat.ne_of_lt hTh)).trans PD.box, fun h => by cases h⟩ ?_
                clear hKK KK
                try simp only [Act.put, List.setIfInBounds_toArray, List.set_cons_zero, List.set_cons_succ]
                refine wpAnyB_one (i := 22) true rfl (by kernel_rfl) (by kernel_rfl) ?_
                intro KK hKK
                go_simp
                refine hKK.out _ _ ⟨(World.cell?_setCell_far _ _ _ _ (Nat.ne_of_lt hTh)).trans PD.box, fun h => by cases h⟩ ?_
                clear hKK KK
                try simp only [Act.put, List.setIfInBounds_toArray, List.set_cons_zero, List.set_cons_succ]
                refine wpAnyB_one (i := 23) true rfl (by kernel_rfl) (by kernel_rfl) ?_
                intro KK hKK
                go_simp
                refine hKK.out _ _ ⟨(World.cell?_setCell_far _ _ _ _ (Nat.ne_of_lt hTh)).trans ((World.cell?_setCell_far _ _ _ _ (Nat.ne_of_lt hTh)).trans PD.box), fun h => by cases h⟩ ?_
                clear hKK KK
                try simp only [Act.put, List.setIfInBounds_toArray, List.set_cons_zero, List.set_cons_succ]
                refine wpAnyB_done (by kernel_rfl) (NoPanic.normal ?_) _
                clear y1 y2 y3 y4 y5 y6 i1 i2 i3 i4 i5 i6
                have hEND := Lib.hid (PushSt.done PD HI.out rfl HX.out HA.out ha24 H8.out)
                clear PD
                go_wp2
                go_roundw
                case rel => exact ⟨i + 1, K ++ [i], _, by omega, by go_num, hEND.out⟩
                case measure => first | (simp [intOf]; done) | (simp [intOf]; omega)
            · intro KK hKK
              go_simp
              have P7 := PushSt.alloc P6 (.cells #[.int .i64 (i : Int)] 3)
              have tB : (World.alloc W6 (.cells #[.int .i64 (i : Int)] 3)).cell? ⟨W6.heap.size, 0, none⟩ = some (vNat i) := by go_simp; all_goals rfl
              have zW7 : W6.heap.size < (World.alloc W6 (.cells #[.int .i64 (i : Int)] 3)).heap.size := by simp
              generalize (World.alloc W6 (.cells #[.int .i64 (i : Int)] 3)) = W7 at *
              refine hKK.out _ _ ⟨P7.box, fun _ => ⟨(P7.at_ (Nat.lt_of_succ_lt ha24)).trans (congrArg some HV0.out), (P7.at_ ha24).trans (congrArg some HV1.out)⟩⟩ ?_
              clear hKK KK
              try simp only [Act.put, List.setIfInBounds_toArray, List.set_cons_zero, List.set_cons_succ]
              refine wpAnyB_one (i := 10) false rfl (by kernel_rfl) (by kernel_rfl) ?_
              intro KK hKK
              go_simp
              have P8 := PushSt.alloc P7 (.cells #[.int .i64 (i : Int)] 3)
              have tA : (World.alloc W7 (.cells #[.int .i64 (i : Int)] 3)).cell? ⟨W7.heap.size, 0, none⟩ = some (vNat i) := by go_simp; all_goals rfl
              have zW8 : W7.heap.size < (World.alloc W7 (.cells #[.int .i64 (i : Int)] 3)).heap.size := by simp
              have tB' := (World.cell?_alloc_lt W7 (.cells #[.int .i64 (i : Int)] 3) ⟨W6.heap.size, 0, none⟩ (by exact zW7)).trans tB
              generalize (World.alloc W7 (.cells #[.int .i64 (i : Int)] 3)) = W8 at *
              refine hKK.out _ _ ⟨P8.box, fun _ => ⟨(P8.at_ (Nat.lt_of_succ_lt ha24)).trans (congrArg some HV0.out), (P8.at_ ha24).trans (congrArg some HV1.out)⟩⟩ ?_
              clear hKK KK
              try simp only [Act.put, List.setIfInBounds_toArray, List.set_cons_zero, List.set_cons_succ]
              refine wpAnyB_one (i := 11) false rfl (by kernel_rfl) (by kernel_rfl) ?_
              intro KK hKK
              refine step_appN rfl (.tmp 99) (.tmp 101) _ rfl (w1.heap.size + 2) 3 (.int .i64 0) 1 8 Try.underlying29 infoInt rfl h1' h8' (.slice A0 (stk ws K a).length k0) (stk ws K a).length ((stk ws K a).map vNat) rfl (PushSt.rowA P8 ha24 HV0.out) _ 1 1 [vNat i] rfl rfl (news1 tA) (one_int _ _) hl0' (Nat.le_trans P8.low (Nat.le_of_lt P8.big)) ?_
              intro v0 W9 ho hg hn hr
              clear hn
              obtain ⟨v0A, v0k, v0e⟩ := own_form ho
              subst v0e
              have P9 := PushSt.appA P8 ha24 HV0.out hg ho hr
              have tB9 := tmp_keep hg (Nat.lt_trans zW7 zW8) (fun g e => Nat.lt_trans (hfa g e) P6.big) tB'
              clear ho hr hg
              refine hKK.out _ _ ⟨P9.box, fun _ => ⟨(P9.at_ (Nat.lt_of_succ_lt ha24)).trans (congrArg some HV0.out), (P9.at_ ha24).trans (congrArg some HV1.out)⟩⟩ ?_
              clear hKK KK
              try simp only [Act.put, List.setIfInBounds_toArray]
              refine wpAnyB_take (i := 20) (oi := _) (v := ?vv23) (fun w' => w'.cell? ⟨wo.heap.size, 1, none⟩ = some (.int .i64 (a : Int))) rfl (by kernel_rfl) (by kernel_rfl) (by kernel_rfl) (by kernel_rfl) (by rfl) (fun _ h => h.1) (.inl fun _ h => h.1) (fun _ _ _ h => h) (.inl ⟨by rfl, ?hy23⟩) ⟨P9.box, fun _ => ⟨(P9.at_ (Nat.lt_of_succ_lt ha24)).trans (congrArg some HV0.out), (P9.at_ ha24).trans (congrArg some HV1.out)⟩⟩ ?_
              case hy23 =>
                intro w' hSw
                try dsimp only at hSw
                go_simp
                all_goals with_reducible rfl
              try simp only [Act.put]
              refine wpAnyB_one (i := 19) false rfl (by kernel_rfl) (by kernel_rfl) ?_
              intro KK hKK
              refine step_appN rfl (.tmp 107) (.tmp 109) _ rfl (w1.heap.size + 2) 3 (.int .i64 0) 1 8 Try.underlying29 infoInt rfl h1' h8' (.slice A1 (stk ws K (a + 1)).length k1) (stk ws K (a + 1)).length ((stk ws K (a + 1)).map vNat) rfl (PushSt.rowB P9 ha24 HV1.out) _ 1 1 [vNat i] rfl rfl (news1 tB9) (one_int _ _) hl1' (Nat.le_trans P9.low (Nat.le_of_lt P9.big)) ?_
              intro v1 W10 ho hg hn hr
              clear hn
              obtain ⟨v1A, v1k, v1e⟩ := own_form ho
              subst v1e
              have PD := PushSt.appB P9 ha24 HV1.out hg ho hr
              clear ho hr hg
              refine hKK.out _ _ ⟨PD.box, fun _ => ⟨(PD.at_ (Nat.lt_of_succ_lt ha24)).trans (congrArg some HV0.out), (PD.at_ ha24).trans (congrArg some HV1.out)⟩⟩ ?_
              clear hKK KK
              try simp only [Act.put]
              refine wpAnyB_one (i := 21) true rfl (by kernel_rfl) (by kernel_rfl) ?_
              intro KK hKK
              have y1 := (PD.at_ (Nat.lt_of_succ_lt ha24))
              have y2 := (PD.at_ ha24)
              have y3 := PD.frz a
              have y4 := PD.frz (a + 1)
              have y5 := PD.box
              have y6 := PD.has.lt
              go_simp
              refine hKK.out _ _ ⟨(World.cell?_setCell_far _ _ _ _ (Nat.ne_of_lt hTh)).trans PD.box, fun h => by cases h⟩ ?_
              clear hKK KK
              try simp only [Act.put, List.setIfInBounds_toArray, List.set_cons_zero, List.set_cons_succ]
              refine wpAnyB_one (i := 22) true rfl (by kernel_rfl) (by kernel_rfl) ?_
              intro KK hKK
              go_simp
              refine hKK.out _ _ ⟨(World.cell?_setCell_far _ _ _ _ (Nat.ne_of_lt hTh)).trans PD.box, fun h => by cases h⟩ ?_
              clear hKK KK
              try simp only [Act.put, List.setIfInBounds_toArray, List.set_cons_zero, List.set_cons_succ]
              refine wpAnyB_one (i := 23) true rfl (by kernel_rfl) (by kernel_rfl) ?_
              intro KK hKK
              go_simp
              refine hKK.out _ _ ⟨(World.cell?_setCell_far _ _ _ _ (Nat.ne_of_lt hTh)).trans ((World.cell?_setCell_far _ _ _ _ (Nat.ne_of_lt hTh)).trans PD.box), fun h => by cases h⟩ ?_
              clear hKK KK
              try simp only [Act.put, List.setIfInBounds_toArray, List.set_cons_zero, List.set_cons_succ]
              refine wpAnyB_done (by kernel_rfl) (NoPanic.normal ?_) _
              clear y1 y2 y3 y4 y5 y6 i1 i2 i3 i4 i5 i6
              have hEND := Lib.hid (PushSt.done PD HI.out rfl HX.out HA.out ha24 H8.out)
              clear PD
              go_wp2
              go_roundw
              case rel => exact ⟨i + 1, K ++ [i], _, by omega, by go_num, hEND.out⟩
              case measure => first | (simp [intOf]; done) | (simp [intOf]; omega)
          · have hl1 : l < 0 := by omega
            have hl2 : decide (0 ≤ l) = false := by simpa using hl0
            clear hno hl0
            go_wp2
            have hxc := fun (x' : Ext w3) => x'.cell
            refine wp_region_ext (by kernel_rfl) (by kernel_rfl) ?_
            repeat (go_big_quiet_step (fail))
            refine wpQuiet_nil ?_
            intro w4 hw'
            have hbx := bvia hb3 (ext_below hw')
            have hb4 := bvia hB3 hbx
            clear hw' hxc
            have g0 : w4.cell? ⟨wo.heap.size, 0, none⟩ = some (.int .i64 x.kind) := by rw [hbx.cell hz3]; exact b0
            have g1 : w4.cell? ⟨wo.heap.size, 1, none⟩ = some (.int .i64 (a : Int)) := by rw [hbx.cell hz3]; exact b1
            have g2 : w4.cell? ⟨wo.heap.size, 2, none⟩ = some (.string x.word) := by rw [hbx.cell hz3]; exact b2
            have hk4 := own_below HI.out.kept hb4
            have hH4 := HI.out.has.below hb4 hzT
            have hz4 : wo.heap.size < w4.heap.size := by have := hbx.size; omega
            clear e1 f0 f1 f2 q1 q2 q3 b0 b1 b2 hb3
            have kt : w4.cell? ⟨w1.heap.size + 1, i, none⟩ = some (.bool (inK K i)) := by rw [hk4.cellAt i (by omega), List.getElem?_map, List.getElem?_range hlt]; rfl
            have kf := hk4.frozenAt i
            have HK4 := Lib.hid hk4; clear hk4
            have HH4 := Lib.hid hH4; clear hH4
            go_wp2
            have hH5 : Has (w4.setCell ⟨w1.heap.size + 1, i, none⟩ (.bool true)) w1.heap.size 74 ((List.range 24).map V) := HH4.out.far (by omega) _ _
            have hR5 : Hid (∀ q, q < 24 → (w4.setCell ⟨w1.heap.size + 1, i, none⟩ (.bool true)).ownsRow (w1.heap.size + 2) 3 1 (V q) (stk ws K q).length ((stk ws K q).map vNat)) := fun q hq => ownsRow_setCell_below (own_below (HI.out.rows q hq) hb4) (by simp) _
            have hK5 : Hid ((w4.setCell ⟨w1.heap.size + 1, i, none⟩ (.bool true)).ownsRow (w1.heap.size + 1) 4 1 (.slice (some ⟨w1.heap.size + 1, 0, none⟩) n n) n (((List.range n).map fun j => Value.bool (inK K j)).set i (.bool true))) := (HK4.out.stored i (.bool true)).1
            have hO5 : Hid (Below w1.heap.size w1 (w4.setCell ⟨w1.heap.size + 1, i, none⟩ (.bool true))) := ((HI.out.old.trans (hb4.mono (by omega))).setCell (by simp) _)
            have p0 : (w4.setCell ⟨w1.heap.size + 1, i, none⟩ (.bool true)).cell? ⟨wo.heap.size, 1, none⟩ = some (.int .i64 (a : Int)) := by rw [World.cell?_setCell_other _ _ _ _ (by intro e; injection e; omega)]; exact g1
            have hz5 : wo.heap.size < (w4.setCell ⟨w1.heap.size + 1, i, none⟩ (.bool true)).heap.size := by rw [World.size_setCell]; exact hz4
            clear kt kf g0 g1 g2
            generalize (w4.setCell ⟨w1.heap.size + 1, i, none⟩ (.bool true)) = W5 at *
            have m0 : W5.cell? ⟨w1.heap.size, a, none⟩ = some (.slice A0 (stk ws K a).length k0) := by rw [has_at hH5 (by omega)]; exact congrArg some HV0.out
            have m1 : W5.cell? ⟨w1.heap.size, a + 1, none⟩ = some (.slice A1 (stk ws K (a + 1)).length k1) := by rw [has_at hH5 (by omega)]; exact congrArg some HV1.out
            have n0 := hH5.free a
            have n1 := hH5.free (a + 1)
            have P : Hid (PushSt ws w1.heap.size n w1 i K V a wo.heap.size none none W5) := {
              has := hH5
              rows := fun q hq _ _ => hR5.out q hq
              row0 := fun v hv => by cases hv
              row1 := fun v hv => by cases hv
              two := fun v0 v1 h0 h1 => by cases h0
              kept := hK5.out
              old := hO5.out
              far := fun q hq g hg => (HI.out.rows q hq).lt g hg
              apart := HI.out.apart
              low := hT1
              big := hz5
              box := p0 }
            have HH5 := Lib.hid hH5; clear hH5
            have i1 : (0 : Int) ≤ (a : Int) := by omega
            have i2 : (a : Int) < 24 := by omega
            have i3 : IntKind.i64.wrap ((a : Int) + 1) = (a : Int) + 1 := IntWalk.i64_in _ (by omega)
            have i4 : (0 : Int) ≤ (a : Int) + 1 := by omega
            have i5 : (a : Int) + 1 < 24 := by omega
            have i6 : ((a : Int) + 1).toNat = a + 1 := by omega
            have z5 : w1.heap.size < W5.heap.size := by omega
            have P6 := P.out.drew
            have ha24 : a + 1 < 24 := by omega
            have hTh : w1.heap.size < wo.heap.size := hzT
            have hl0' : (stk ws K a).length + 1 ≤ 1000000000 := by omega
            have hl1' : (stk ws K (a + 1)).length + 1 ≤ 1000000000 := by omega
            have hfa : ∀ g, (Value.slice A0 (stk ws K a).length k0).ownBlock = some g → g < wo.heap.size := fun g hg => (P.out.far a (Nat.lt_of_succ_lt ha24) g (by rw [HV0.out]; exact hg)).2
            have h8' : (8 : Nat) ≤ 100 := by omega
            have h1' : (0 : Nat) < 1 := by omega
            refine wp_region_noPanic ?_
            refine wp_region_B (fun b w' => w'.cell? ⟨wo.heap.size, 1, none⟩ = some (.int .i64 (a : Int)) ∧ (b = false → w'.cell? ⟨w1.heap.size, a, none⟩ = some (.slice A0 (stk ws K a).length k0) ∧ w'.cell? ⟨w1.heap.size, a + 1, none⟩ = some (.slice A1 (stk ws K (a + 1)).length k1))) 21 (by kernel_rfl) ?_
            clear m0 m1 p0 n0 n1 hR5 hK5 hO5
            have z6 : w1.heap.size < W5.drew.heap.size := z5
            generalize W5.drew = W6 at *
            have hS6 : (fun b w' => w'.cell? ⟨wo.heap.size, 1, none⟩ = some (.int .i64 (a : Int)) ∧ (b = false → w'.cell? ⟨w1.heap.size, a, none⟩ = some (.slice A0 (stk ws K a).length k0) ∧ w'.cell? ⟨w1.heap.size, a + 1, none⟩ = some (.slice A1 (stk ws K (a + 1)).length k1))) false W6 := ⟨P6.box, fun _ => ⟨(P6.at_ (Nat.lt_of_succ_lt ha24)).trans (congrArg some HV0.out), (P6.at_ ha24).trans (congrArg some HV1.out)⟩⟩
            refine wpAnyB_take (i := 0) (oi := _) (v := ?vv1) (fun w' => w'.cell? ⟨wo.heap.size, 1, none⟩ = some (.int .i64 (a : Int))) rfl (by kernel_rfl) (by kernel_rfl) (by kernel_rfl) (by kernel_rfl) (by rfl) (fun _ h => h.1) (.inl fun _ h => h.1) (fun _ _ _ h => h) (.inl ⟨by rfl, ?hy1⟩) hS6 ?_
            case hy1 =>
              intro w' hSw
              try dsimp only at hSw
              go_simp
              all_goals with_reducible rfl
            try simp only [Act.put, List.setIfInBounds_toArray]
            refine wpAnyB_take (i := 1) (oi := _) (v := ?vv2) (fun w' => w'.cell? ⟨wo.heap.size, 1, none⟩ = some (.int .i64 (a : Int))) rfl (by kernel_rfl) (by kernel_rfl) (by kernel_rfl) (by kernel_rfl) (by rfl) (fun _ h => h.1) (.inl fun _ h => h.1) (fun _ _ _ h => h) (.inl ⟨by rfl, ?hy2⟩) hS6 ?_
            case hy2 =>
              intro w' hSw
              try dsimp only at hSw
              go_simp
              all_goals with_reducible rfl
            try simp only [Act.put]
            refine wpAnyB_take (i := 2) (oi := _) (v := ?vv3) (fun w' => w'.cell? ⟨wo.heap.size, 1, none⟩ = some (.int .i64 (a : Int))) rfl (by kernel_rfl) (by kernel_rfl) (by kernel_rfl) (by kernel_rfl) (by rfl) (fun _ h => h.1) (.inl fun _ h => h.1) (fun _ _ _ h => h) (.inl ⟨by rfl, ?hy3⟩) hS6 ?_
            case hy3 =>
              intro w' hSw
              try dsimp only at hSw
              go_simp
              all_goals with_reducible rfl
            try simp only [Act.put]
            refine wpAnyB_take (i := 3) (oi := _) (v := ?vv4) (fun w' => w'.cell? ⟨wo.heap.size, 1, none⟩ = some (.int .i64 (a : Int))) rfl (by kernel_rfl) (by kernel_rfl) (by kernel_rfl) (by kernel_rfl) (by rfl) (fun _ h => h.1) (.inl fun _ h => h.1) (fun _ _ _ h => h) (.inl ⟨by rfl, ?hy4⟩) hS6 ?_
            case hy4 =>
              intro w' hSw
              try dsimp only at hSw
              go_simp
              all_goals with_reducible rfl
            try simp only [Act.put]
            refine wpAnyB_take (i := 4) (oi := _) (v := ?vv5) (fun w' => w'.cell? ⟨wo.heap.size, 1, none⟩ = some (.int .i64 (a : Int))) rfl (by kernel_rfl) (by kernel_rfl) (by kernel_rfl) (by kernel_rfl) (by rfl) (fun _ h => h.1) (.inl fun _ h => h.1) (fun _ _ _ h => h) (.inl ⟨by rfl, ?hy5⟩) hS6 ?_
            case hy5 =>
              intro w' hSw
              try dsimp only at hSw
              go_simp
              all_goals with_reducible rfl
            try simp only [Act.put]
            refine wpAnyB_take (i := 5) (oi := _) (v := ?vv6) (fun w' => w'.cell? ⟨wo.heap.size, 1, none⟩ = some (.int .i64 (a : Int))) rfl (by kernel_rfl) (by kernel_rfl) (by kernel_rfl) (by kernel_rfl) (by rfl) (fun _ h => h.1) (.inl fun _ h => h.1) (fun _ _ _ h => h) (.inl ⟨by rfl, ?hy6⟩) hS6 ?_
            case hy6 =>
              intro w' hSw
              try dsimp only at hSw
              go_simp
              all_goals with_reducible rfl
            try simp only [Act.put]
            refine wpAnyB_take (i := 6) (oi := _) (v := ?vv7) (fun w' => w'.cell? ⟨wo.heap.size, 1, none⟩ = some (.int .i64 (a : Int))) rfl (by kernel_rfl) (by kernel_rfl) (by kernel_rfl) (by kernel_rfl) (by rfl) (fun _ h => h.1) (.inl fun _ h => h.1) (fun _ _ _ h => h) (.inl ⟨by rfl, ?hy7⟩) hS6 ?_
            case hy7 =>
              intro w' hSw
              try dsimp only at hSw
              go_simp
              all_goals with_reducible rfl
            try simp only [Act.put]
            refine wpAnyB_take (i := 7) (oi := _) (v := ?vv8) (fun w' => w'.cell? ⟨wo.heap.size, 1, none⟩ = some (.int .i64 (a : Int))) rfl (by kernel_rfl) (by kernel_rfl) (by kernel_rfl) (by kernel_rfl) (by rfl) (fun _ h => h.1) (.inl fun _ h => h.1) (fun _ _ _ h => h) (.inl ⟨by rfl, ?hy8⟩) hS6 ?_
            case hy8 =>
              intro w' hSw
              try dsimp only at hSw
              go_simp
              all_goals with_reducible rfl
            try simp only [Act.put]
            refine wpAnyB_take (i := 8) (oi := _) (v := ?vv9) (fun w' => w'.cell? ⟨wo.heap.size, 1, none⟩ = some (.int .i64 (a : Int)) ∧ w'.cell? ⟨w1.heap.size, a, none⟩ = some (.slice A0 (stk ws K a).length k0) ∧ w'.cell? ⟨w1.heap.size, a + 1, none⟩ = some (.slice A1 (stk ws K (a + 1)).length k1)) rfl (by kernel_rfl) (by kernel_rfl) (by kernel_rfl) (by kernel_rfl) (by rfl) (fun _ h => ⟨h.1, h.2 rfl⟩) (.inr (by kernel_rfl)) (fun _ _ _ h => h) (.inl ⟨by rfl, ?hy9⟩) hS6 ?_
            case hy9 =>
              intro w' hSw
              try dsimp only at hSw
              go_simp
              all_goals with_reducible rfl
            try simp only [Act.put]
            refine wpAnyB_take (i := 9) (oi := _) (v := ?vv10) (fun w' => w'.cell? ⟨wo.heap.size, 1, none⟩ = some (.int .i64 (a : Int))) rfl (by kernel_rfl) (by kernel_rfl) (by kernel_rfl) (by kernel_rfl) (by rfl) (fun _ h => h.1) (.inl fun _ h => h.1) (fun _ _ _ h => h) (.inl ⟨by rfl, ?hy10⟩) hS6 ?_
            case hy10 =>
              intro w' hSw
              try dsimp only at hSw
              go_simp
              all_goals with_reducible rfl
            try simp only [Act.put]
            refine wpAnyB_take (i := 12) (oi := _) (v := ?vv11) (fun w' => w'.cell? ⟨wo.heap.size, 1, none⟩ = some (.int .i64 (a : Int))) rfl (by kernel_rfl) (by kernel_rfl) (by kernel_rfl) (by kernel_rfl) (by rfl) (fun _ h => h.1) (.inl fun _ h => h.1) (fun _ _ _ h => h) (.inl ⟨by rfl, ?hy11⟩) hS6 ?_
            case hy11 =>
              intro w' hSw
              try dsimp only at hSw
              go_simp
              all_goals with_reducible rfl
            try simp only [Act.put]
            refine wpAnyB_take (i := 13) (oi := _) (v := ?vv12) (fun w' => w'.cell? ⟨wo.heap.size, 1, none⟩ = some (.int .i64 (a : Int))) rfl (by kernel_rfl) (by kernel_rfl) (by kernel_rfl) (by kernel_rfl) (by rfl) (fun _ h => h.1) (.inl fun _ h => h.1) (fun _ _ _ h => h) (.inl ⟨by rfl, ?hy12⟩) hS6 ?_
            case hy12 =>
              intro w' hSw
              try dsimp only at hSw
              go_simp
              all_goals with_reducible rfl
            try simp only [Act.put]
            refine wpAnyB_take (i := 14) (oi := _) (v := ?vv13) (fun w' => w'.cell? ⟨wo.heap.size, 1, none⟩ = some (.int .i64 (a : Int))) rfl (by kernel_rfl) (by kernel_rfl) (by kernel_rfl) (by kernel_rfl) (by rfl) (fun _ h => h.1) (.inl fun _ h => h.1) (fun _ _ _ h => h) (.inl ⟨by rfl, ?hy13⟩) hS6 ?_
            case hy13 =>
              intro w' hSw
              try dsimp only at hSw
              go_simp
              all_goals with_reducible rfl
            try simp only [Act.put]
            refine wpAnyB_take (i := 15) (oi := _) (v := ?vv14) (fun w' => w'.cell? ⟨wo.heap.size, 1, none⟩ = some (.int .i64 (a : Int))) rfl (by kernel_rfl) (by kernel_rfl) (by kernel_rfl) (by kernel_rfl) (by rfl) (fun _ h => h.1) (.inl fun _ h => h.1) (fun _ _ _ h => h) (.inl ⟨by rfl, ?hy14⟩) hS6 ?_
            case hy14 =>
              intro w' hSw
              try dsimp only at hSw
              go_simp
              all_goals with_reducible rfl
            try simp only [Act.put]
            refine wpAnyB_take (i := 16) (oi := _) (v := ?vv15) (fun w' => w'.cell? ⟨wo.heap.size, 1, none⟩ = some (.int .i64 (a : Int)) ∧ w'.cell? ⟨w1.heap.size, a, none⟩ = some (.slice A0 (stk ws K a).length k0) ∧ w'.cell? ⟨w1.heap.size, a + 1, none⟩ = some (.slice A1 (stk ws K (a + 1)).length k1)) rfl (by kernel_rfl) (by kernel_rfl) (by kernel_rfl) (by kernel_rfl) (by rfl) (fun _ h => ⟨h.1, h.2 rfl⟩) (.inr (by kernel_rfl)) (fun _ _ _ h => h) (.inl ⟨by rfl, ?hy15⟩) hS6 ?_
            case hy15 =>
              intro w' hSw
              try dsimp only at hSw
              go_simp
              all_goals with_reducible rfl
            try simp only [Act.put]
            refine wpAnyB_take (i := 17) (oi := _) (v := ?vv16) (fun w' => w'.cell? ⟨wo.heap.size, 1, none⟩ = some (.int .i64 (a : Int))) rfl (by kernel_rfl) (by kernel_rfl) (by kernel_rfl) (by kernel_rfl) (by rfl) (fun _ h => h.1) (.inl fun _ h => h.1) (fun _ _ _ h => h) (.inl ⟨by rfl, ?hy16⟩) hS6 ?_
            case hy16 =>
              intro w' hSw
              try dsimp only at hSw
              go_simp
              all_goals with_reducible rfl
            try simp only [Act.put]
            refine wpAnyB_two (i := 10) (j := 18) false rfl rfl (by kernel_rfl) (by kernel_rfl) (by kernel_rfl) ?_ ?_
            · intro KK hKK
              go_simp
              have P7 := PushSt.alloc P6 (.cells #[.int .i64 (i : Int)] 3)
              have tA : (World.alloc W6 (.cells #[.int .i64 (i : Int)] 3)).cell? ⟨W6.heap.size, 0, none⟩ = some (vNat i) := by go_simp; all_goals rfl
              have zW7 : W6.heap.size < (World.alloc W6 (.cells #[.int .i64 (i : Int)] 3)).heap.size := by simp
              generalize (World.alloc W6 (.cells #[.int .i64 (i : Int)] 3)) = W7 at *
              refine hKK.out _ _ ⟨P7.box, fun _ => ⟨(P7.at_ (Nat.lt_of_succ_lt ha24)).trans (congrArg some HV0.out), (P7.at_ ha24).trans (congrArg some HV1.out)⟩⟩ ?_
              clear hKK KK
              try simp only [Act.put, List.setIfInBounds_toArray, List.set_cons_zero, List.set_cons_succ]
              refine wpAnyB_two (i := 11) (j := 18) false rfl rfl (by kernel_rfl) (by kernel_rfl) (by kernel_rfl) ?_ ?_
              · intro KK hKK
                refine step_appN rfl (.tmp 99) (.tmp 101) _ rfl (w1.heap.size + 2) 3 (.int .i64 0) 1 8 Try.underlying29 infoInt rfl h1' h8' (.slice A0 (stk ws K a).length k0) (stk ws K a).length ((stk ws K a).map vNat) rfl (PushSt.rowA P7 ha24 HV0.out) _ 1 1 [vNat i] rfl rfl (news1 tA) (one_int _ _) hl0' (Nat.le_trans P7.low (Nat.le_of_lt P7.big)) ?_
                intro v0 W8 ho hg hn hr
                clear hn
                obtain ⟨v0A, v0k, v0e⟩ := own_form ho
                subst v0e
                have P8 := PushSt.appA P7 ha24 HV0.out hg ho hr
                clear ho hr hg
                refine hKK.out _ _ ⟨P8.box, fun _ => ⟨(P8.at_ (Nat.lt_of_succ_lt ha24)).trans (congrArg some HV0.out), (P8.at_ ha24).trans (congrArg some HV1.out)⟩⟩ ?_
                clear hKK KK
                try simp only [Act.put, List.setIfInBounds_toArray]
                refine wpAnyB_take (i := 20) (oi := _) (v := ?vv17) (fun w' => w'.cell? ⟨wo.heap.size, 1, none⟩ = some (.int .i64 (a : Int))) rfl (by kernel_rfl) (by kernel_rfl) (by kernel_rfl) (by kernel_rfl) (by rfl) (fun _ h => h.1) (.inl fun _ h => h.1) (fun _ _ _ h => h) (.inl ⟨by rfl, ?hy17⟩) ⟨P8.box, fun _ => ⟨(P8.at_ (Nat.lt_of_succ_lt ha24)).trans (congrArg some HV0.out), (P8.at_ ha24).trans (congrArg some HV1.out)⟩⟩ ?_
                case hy17 =>
                  intro w' hSw
                  try dsimp only at hSw
                  go_simp
                  all_goals with_reducible rfl
                try simp only [Act.put]
                refine wpAnyB_one (i := 18) false rfl (by kernel_rfl) (by kernel_rfl) ?_
                intro KK hKK
                go_simp
                have P9 := PushSt.alloc P8 (.cells #[.int .i64 (i : Int)] 3)
                have tB : (World.alloc W8 (.cells #[.int .i64 (i : Int)] 3)).cell? ⟨W8.heap.size, 0, none⟩ = some (vNat i) := by go_simp; all_goals rfl
                have zW9 : W8.heap.size < (World.alloc W8 (.cells #[.int .i64 (i : Int)] 3)).heap.size := by simp
                generalize (World.alloc W8 (.cells #[.int .i64 (i : Int)] 3)) = W9 at *
                refine hKK.out _ _ ⟨P9.box, fun _ => ⟨(P9.at_ (Nat.lt_of_succ_lt ha24)).trans (congrArg some HV0.out), (P9.at_ ha24).trans (congrArg some HV1.out)⟩⟩ ?_
                clear hKK KK
                try simp only [Act.put, List.setIfInBounds_toArray, List.set_cons_zero, List.set_cons_succ]
                refine wpAnyB_one (i := 19) false rfl (by kernel_rfl) (by kernel_rfl) ?_
                intro KK hKK
                refine step_appN rfl (.tmp 107) (.tmp 109) _ rfl (w1.heap.size + 2) 3 (.int .i64 0) 1 8 Try.underlying29 infoInt rfl h1' h8' (.slice A1 (stk ws K (a + 1)).length k1) (stk ws K (a + 1)).length ((stk ws K (a + 1)).map vNat) rfl (PushSt.rowB P9 ha24 HV1.out) _ 1 1 [vNat i] rfl rfl (news1 tB) (one_int _ _) hl1' (Nat.le_trans P9.low (Nat.le_of_lt P9.big)) ?_
                intro v1 W10 ho hg hn hr
                clear hn
                obtain ⟨v1A, v1k, v1e⟩ := own_form ho
                subst v1e
                have PD := PushSt.appB P9 ha24 HV1.out hg ho hr
                clear ho hr hg
                refine hKK.out _ _ ⟨PD.box, fun _ => ⟨(PD.at_ (Nat.lt_of_succ_lt ha24)).trans (congrArg some HV0.out), (PD.at_ ha24).trans (congrArg some HV1.out)⟩⟩ ?_
                clear hKK KK
                try simp only [Act.put, List.setIfInBounds_toArray]
                refine wpAnyB_one (i := 21) true rfl (by kernel_rfl) (by kernel_rfl) ?_
                intro KK hKK
                have y1 := (PD.at_ (Nat.lt_of_succ_lt ha24))
                have y2 := (PD.at_ ha24)
                have y3 := PD.frz a
                have y4 := PD.frz (a + 1)
                have y5 := PD.box
                have y6 := PD.has.lt
                go_simp
                refine hKK.out _ _ ⟨(World.cell?_setCell_far _ _ _ _ (Nat.ne_of_lt hTh)).trans PD.box, fun h => by cases h⟩ ?_
                clear hKK KK
                try simp only [Act.put, List.setIfInBounds_toArray, List.set_cons_zero, List.set_cons_succ]
                refine wpAnyB_one (i := 22) true rfl (by kernel_rfl) (by kernel_rfl) ?_
                intro KK hKK
                go_simp
                refine hKK.out _ _ ⟨(World.cell?_setCell_far _ _ _ _ (Nat.ne_of_lt hTh)).trans PD.box, fun h => by cases h⟩ ?_
                clear hKK KK
                try simp only [Act.put, List.setIfInBounds_toArray, List.set_cons_zero, List.set_cons_succ]
                refine wpAnyB_one (i := 23) true rfl (by kernel_rfl) (by kernel_rfl) ?_
                intro KK hKK
                go_simp
                refine hKK.out _ _ ⟨(World.cell?_setCell_far _ _ _ _ (Nat.ne_of_lt hTh)).trans ((World.cell?_setCell_far _ _ _ _ (Nat.ne_of_lt hTh)).trans PD.box), fun h => by cases h⟩ ?_
                clear hKK KK
                try simp only [Act.put, List.setIfInBounds_toArray, List.set_cons_zero, List.set_cons_succ]
                refine wpAnyB_done (by kernel_rfl) (NoPanic.normal ?_) _
                clear y1 y2 y3 y4 y5 y6 i1 i2 i3 i4 i5 i6
                have hEND := Lib.hid (PushSt.done PD HI.out rfl HX.out HA.out ha24 H8.out)
                clear PD
                go_wp2
                go_roundw
                case rel => exact ⟨i + 1, K ++ [i], _, by omega, by go_num, hEND.out⟩
                case measure => first | (simp [intOf]; done) | (simp [intOf]; omega)
              · intro KK hKK
                go_simp
                have P8 := PushSt.alloc P7 (.cells #[.int .i64 (i : Int)] 3)
                have tB : (World.alloc W7 (.cells #[.int .i64 (i : Int)] 3)).cell? ⟨W7.heap.size, 0, none⟩ = some (vNat i) := by go_simp; all_goals rfl
                have zW8 : W7.heap.size < (World.alloc W7 (.cells #[.int .i64 (i : Int)] 3)).heap.size := by simp
                have tA' := (World.cell?_alloc_lt W7 (.cells #[.int .i64 (i : Int)] 3) ⟨W6.heap.size, 0, none⟩ (by exact zW7)).trans tA
                generalize (World.alloc W7 (.cells #[.int .i64 (i : Int)] 3)) = W8 at *
                refine hKK.out _ _ ⟨P8.box, fun _ => ⟨(P8.at_ (Nat.lt_of_succ_lt ha24)).trans (congrArg some HV0.out), (P8.at_ ha24).trans (congrArg some HV1.out)⟩⟩ ?_
                clear hKK KK
                try simp only [Act.put, List.setIfInBounds_toArray, List.set_cons_zero, List.set_cons_succ]
                refine wpAnyB_one (i := 11) false rfl (by kernel_rfl) (by kernel_rfl) ?_
                intro KK hKK
                refine step_appN rfl (.tmp 99) (.tmp 101) _ rfl (w1.heap.size + 2) 3 (.int .i64 0) 1 8 Try.underlying29 infoInt rfl h1' h8' (.slice A0 (stk ws K a).length k0) (stk ws K a).length ((stk ws K a).map vNat) rfl (PushSt.rowA P8 ha24 HV0.out) _ 1 1 [vNat i] rfl rfl (news1 tA') (one_int _ _) hl0' (Nat.le_trans P8.low (Nat.le_of_lt P8.big)) ?_
                intro v0 W9 ho hg hn hr
                clear hn
                obtain ⟨v0A, v0k, v0e⟩ := own_form ho
                subst v0e
                have P9 := PushSt.appA P8 ha24 HV0.out hg ho hr
                have tB9 := tmp_keep hg zW8 (fun g e => Nat.lt_trans (hfa g e) P7.big) tB
                clear ho hr hg
                refine hKK.out _ _ ⟨P9.box, fun _ => ⟨(P9.at_ (Nat.lt_of_succ_lt ha24)).trans (congrArg some HV0.out), (P9.at_ ha24).trans (congrArg some HV1.out)⟩⟩ ?_
                clear hKK KK
                try simp only [Act.put, List.setIfInBounds_toArray]
                refine wpAnyB_take (i := 20) (oi := _) (v := ?vv20) (fun w' => w'.cell? ⟨wo.heap.size, 1, none⟩ = some (.int .i64 (a : Int))) rfl (by kernel_rfl) (by kernel_rfl) (by kernel_rfl) (by kernel_rfl) (by rfl) (fun _ h => h.1) (.inl fun _ h => h.1) (fun _ _ _ h => h) (.inl ⟨by rfl, ?hy20⟩) ⟨P9.box, fun _ => ⟨(P9.at_ (Nat.lt_of_succ_lt ha24)).trans (congrArg some HV0.out), (P9.at_ ha24).trans (congrArg some HV1.out)⟩⟩ ?_
                case hy20 =>
                  intro w' hSw
                  try dsimp only at hSw
                  go_simp
                  all_goals with_reducible rfl
                try simp only [Act.put]
                refine wpAnyB_one (i := 19) false rfl (by kernel_rfl) (by kernel_rfl) ?_
                intro KK hKK
                refine step_appN rfl (.tmp 107) (.tmp 109) _ rfl (w1.heap.size + 2) 3 (.int .i64 0) 1 8 Try.underlying29 infoInt rfl h1' h8' (.slice A1 (stk ws K (a + 1)).length k1) (stk ws K (a + 1)).length ((stk ws K (a + 1)).map vNat) rfl (PushSt.rowB P9 ha24 HV1.out) _ 1 1 [vNat i] rfl rfl (news1 tB9) (one_int _ _) hl1' (Nat.le_trans P9.low (Nat.le_of_lt P9.big)) ?_
                intro v1 W10 ho hg hn hr
                clear hn
                obtain ⟨v1A, v1k, v1e⟩ := own_form ho
                subst v1e
                have PD := PushSt.appB P9 ha24 HV1.out hg ho hr
                clear ho hr hg
                refine hKK.out _ _ ⟨PD.box, fun _ => ⟨(PD.at_ (Nat.lt_of_succ_lt ha24)).trans (congrArg some HV0.out), (PD.at_ ha24).trans (congrArg some HV1.out)⟩⟩ ?_
                clear hKK KK
                try simp only [Act.put]
                refine wpAnyB_one (i := 21) true rfl (by kernel_rfl) (by kernel_rfl) ?_
                intro KK hKK
                have y1 := (PD.at_ (Nat.lt_of_succ_lt ha24))
                have y2 := (PD.at_ ha24)
                have y3 := PD.frz a
                have y4 := PD.frz (a + 1)
                have y5 := PD.box
                have y6 := PD.has.lt
                go_simp
                refine hKK.out _ _ ⟨(World.cell?_setCell_far _ _ _ _ (Nat.ne_of_lt hTh)).trans PD.box, fun h => by cases h⟩ ?_
                clear hKK KK
                try simp only [Act.put, List.setIfInBounds_toArray, List.set_cons_zero, List.set_cons_succ]
                refine wpAnyB_one (i := 22) true rfl (by kernel_rfl) (by kernel_rfl) ?_
                intro KK hKK
                go_simp
                refine hKK.out _ _ ⟨(World.cell?_setCell_far _ _ _ _ (Nat.ne_of_lt hTh)).trans PD.box, fun h => by cases h⟩ ?_
                clear hKK KK
                try simp only [Act.put, List.setIfInBounds_toArray, List.set_cons_zero, List.set_cons_succ]
                refine wpAnyB_one (i := 23) true rfl (by kernel_rfl) (by kernel_rfl) ?_
                intro KK hKK
                go_simp
                refine hKK.out _ _ ⟨(World.cell?_setCell_far _ _ _ _ (Nat.ne_of_lt hTh)).trans ((World.cell?_setCell_far _ _ _ _ (Nat.ne_of_lt hTh)).trans PD.box), fun h => by cases h⟩ ?_
                clear hKK KK
                try simp only [Act.put, List.setIfInBounds_toArray, List.set_cons_zero, List.set_cons_succ]
                refine wpAnyB_done (by kernel_rfl) (NoPanic.normal ?_) _
                clear y1 y2 y3 y4 y5 y6 i1 i2 i3 i4 i5 i6
                have hEND := Lib.hid (PushSt.done PD HI.out rfl HX.out HA.out ha24 H8.out)
                clear PD
                go_wp2
                go_roundw
                case rel => exact ⟨i + 1, K ++ [i], _, by omega, by go_num, hEND.out⟩
                case measure => first | (simp [intOf]; done) | (simp [intOf]; omega)
            · intro KK hKK
              go_simp
              have P7 := PushSt.alloc P6 (.cells #[.int .i64 (i : Int)] 3)
              have tB : (World.alloc W6 (.cells #[.int .i64 (i : Int)] 3)).cell? ⟨W6.heap.size, 0, none⟩ = some (vNat i) := by go_simp; all_goals rfl
              have zW7 : W6.heap.size < (World.alloc W6 (.cells #[.int .i64 (i : Int)] 3)).heap.size := by simp
              generalize (World.alloc W6 (.cells #[.int .i64 (i : Int)] 3)) = W7 at *
              refine hKK.out _ _ ⟨P7.box, fun _ => ⟨(P7.at_ (Nat.lt_of_succ_lt ha24)).trans (congrArg some HV0.out), (P7.at_ ha24).trans (congrArg some HV1.out)⟩⟩ ?_
              clear hKK KK
              try simp only [Act.put, List.setIfInBounds_toArray, List.set_cons_zero, List.set_cons_succ]
              refine wpAnyB_one (i := 10) false rfl (by kernel_rfl) (by kernel_rfl) ?_
              intro KK hKK
              go_simp
              have P8 := PushSt.alloc P7 (.cells #[.int .i64 (i : Int)] 3)
              have tA : (World.alloc W7 (.cells #[.int .i64 (i : Int)] 3)).cell? ⟨W7.heap.size, 0, none⟩ = some (vNat i) := by go_simp; all_goals rfl
              have zW8 : W7.heap.size < (World.alloc W7 (.cells #[.int .i64 (i : Int)] 3)).heap.size := by simp
              have tB' := (World.cell?_alloc_lt W7 (.cells #[.int .i64 (i : Int)] 3) ⟨W6.heap.size, 0, none⟩ (by exact zW7)).trans tB
              generalize (World.alloc W7 (.cells #[.int .i64 (i : Int)] 3)) = W8 at *
              refine hKK.out _ _ ⟨P8.box, fun _ => ⟨(P8.at_ (Nat.lt_of_succ_lt ha24)).trans (congrArg some HV0.out), (P8.at_ ha24).trans (congrArg some HV1.out)⟩⟩ ?_
              clear hKK KK
              try simp only [Act.put, List.setIfInBounds_toArray, List.set_cons_zero, List.set_cons_succ]
              refine wpAnyB_one (i := 11) false rfl (by kernel_rfl) (by kernel_rfl) ?_
              intro KK hKK
              refine step_appN rfl (.tmp 99) (.tmp 101) _ rfl (w1.heap.size + 2) 3 (.int .i64 0) 1 8 Try.underlying29 infoInt rfl h1' h8' (.slice A0 (stk ws K a).length k0) (stk ws K a).length ((stk ws K a).map vNat) rfl (PushSt.rowA P8 ha24 HV0.out) _ 1 1 [vNat i] rfl rfl (news1 tA) (one_int _ _) hl0' (Nat.le_trans P8.low (Nat.le_of_lt P8.big)) ?_
              intro v0 W9 ho hg hn hr
              clear hn
              obtain ⟨v0A, v0k, v0e⟩ := own_form ho
              subst v0e
              have P9 := PushSt.appA P8 ha24 HV0.out hg ho hr
              have tB9 := tmp_keep hg (Nat.lt_trans zW7 zW8) (fun g e => Nat.lt_trans (hfa g e) P6.big) tB'
              clear ho hr hg
              refine hKK.out _ _ ⟨P9.box, fun _ => ⟨(P9.at_ (Nat.lt_of_succ_lt ha24)).trans (congrArg some HV0.out), (P9.at_ ha24).trans (congrArg some HV1.out)⟩⟩ ?_
              clear hKK KK
              try simp only [Act.put, List.setIfInBounds_toArray]
              refine wpAnyB_take (i := 20) (oi := _) (v := ?vv23) (fun w' => w'.cell? ⟨wo.heap.size, 1, none⟩ = some (.int .i64 (a : Int))) rfl (by kernel_rfl) (by kernel_rfl) (by kernel_rfl) (by kernel_rfl) (by rfl) (fun _ h => h.1) (.inl fun _ h => h.1) (fun _ _ _ h => h) (.inl ⟨by rfl, ?hy23⟩) ⟨P9.box, fun _ => ⟨(P9.at_ (Nat.lt_of_succ_lt ha24)).trans (congrArg some HV0.out), (P9.at_ ha24).trans (congrArg some HV1.out)⟩⟩ ?_
              case hy23 =>
                intro w' hSw
                try dsimp only at hSw
                go_simp
                all_goals with_reducible rfl
              try simp only [Act.put]
              refine wpAnyB_one (i := 19) false rfl (by kernel_rfl) (by kernel_rfl) ?_
              intro KK hKK
              refine step_appN rfl (.tmp 107) (.tmp 109) _ rfl (w1.heap.size + 2) 3 (.int .i64 0) 1 8 Try.underlying29 infoInt rfl h1' h8' (.slice A1 (stk ws K (a + 1)).length k1) (stk ws K (a + 1)).length ((stk ws K (a + 1)).map vNat) rfl (PushSt.rowB P9 ha24 HV1.out) _ 1 1 [vNat i] rfl rfl (news1 tB9) (one_int _ _) hl1' (Nat.le_trans P9.low (Nat.le_of_lt P9.big)) ?_
              intro v1 W10 ho hg hn hr
              clear hn
              obtain ⟨v1A, v1k, v1e⟩ := own_form ho
              subst v1e
              have PD := PushSt.appB P9 ha24 HV1.out hg ho hr
              clear ho hr hg
              refine hKK.out _ _ ⟨PD.box, fun _ => ⟨(PD.at_ (Nat.lt_of_succ_lt ha24)).trans (congrArg some HV0.out), (PD.at_ ha24).trans (congrArg some HV1.out)⟩⟩ ?_
              clear hKK KK
              try simp only [Act.put]
              refine wpAnyB_one (i := 21) true rfl (by kernel_rfl) (by kernel_rfl) ?_
              intro KK hKK
              have y1 := (PD.at_ (Nat.lt_of_succ_lt ha24))
              have y2 := (PD.at_ ha24)
              have y3 := PD.frz a
              have y4 := PD.frz (a + 1)
              have y5 := PD.box
              have y6 := PD.has.lt
              go_simp
              refine hKK.out _ _ ⟨(World.cell?_setCell_far _ _ _ _ (Nat.ne_of_lt hTh)).trans PD.box, fun h => by cases h⟩ ?_
              clear hKK KK
              try simp only [Act.put, List.setIfInBounds_toArray, List.set_cons_zero, List.set_cons_succ]
              refine wpAnyB_one (i := 22) true rfl (by kernel_rfl) (by kernel_rfl) ?_
              intro KK hKK
              go_simp
              refine hKK.out _ _ ⟨(World.cell?_setCell_far _ _ _ _ (Nat.ne_of_lt hTh)).trans PD.box, fun h => by cases h⟩ ?_
              clear hKK KK
              try simp only [Act.put, List.setIfInBounds_toArray, List.set_cons_zero, List.set_cons_succ]
              refine wpAnyB_one (i := 23) true rfl (by kernel_rfl) (by kernel_rfl) ?_
              intro KK hKK
              go_simp
              refine hKK.out _ _ ⟨(World.cell?_setCell_far _ _ _ _ (Nat.ne_of_lt hTh)).trans ((World.cell?_setCell_far _ _ _ _ (Nat.ne_of_lt hTh)).trans PD.box), fun h => by cases h⟩ ?_
              clear hKK KK
              try simp only [Act.put, List.setIfInBounds_toArray, List.set_cons_zero, List.set_cons_succ]
              refine wpAnyB_done (by kernel_rfl) (NoPanic.normal ?_) _
              clear y1 y2 y3 y4 y5 y6 i1 i2 i3 i4 i5 i6
              have hEND := Lib.hid (PushSt.done PD HI.out rfl HX.out HA.out ha24 H8.out)
              clear PD
              go_wp2
              go_roundw
              case rel => exact ⟨i + 1, K ++ [i], _, by omega, by go_num, hEND.out⟩
              case measure => first | (simp [intOf]; done) | (simp [intOf]; omega)
        · have hlb : (l == r) = false := by simpa using hlr
          clear hno hlr
          go_wp2
          have hxc := fun (x' : Ext w3) => x'.cell
          refine wp_region_ext (by kernel_rfl) (by kernel_rfl) ?_
          repeat (go_big_quiet_step (fail))
          refine wpQuiet_nil ?_
          intro w4 hw'
          have hbx := bvia hb3 (ext_below hw')
          have hb4 := bvia hB3 hbx
          clear hw' hxc
          have g0 : w4.cell? ⟨wo.heap.size, 0, none⟩ = some (.int .i64 x.kind) := by rw [hbx.cell hz3]; exact b0
          have g1 : w4.cell? ⟨wo.heap.size, 1, none⟩ = some (.int .i64 (a : Int)) := by rw [hbx.cell hz3]; exact b1
          have g2 : w4.cell? ⟨wo.heap.size, 2, none⟩ = some (.string x.word) := by rw [hbx.cell hz3]; exact b2
          have hk4 := own_below HI.out.kept hb4
          have hH4 := HI.out.has.below hb4 hzT
          have hz4 : wo.heap.size < w4.heap.size := by have := hbx.size; omega
          clear e1 f0 f1 f2 q1 q2 q3 b0 b1 b2 hb3
          have kt : w4.cell? ⟨w1.heap.size + 1, i, none⟩ = some (.bool (inK K i)) := by rw [hk4.cellAt i (by omega), List.getElem?_map, List.getElem?_range hlt]; rfl
          have kf := hk4.frozenAt i
          have HK4 := Lib.hid hk4; clear hk4
          have HH4 := Lib.hid hH4; clear hH4
          go_wp2
          have hH5 : Has (w4.setCell ⟨w1.heap.size + 1, i, none⟩ (.bool true)) w1.heap.size 74 ((List.range 24).map V) := HH4.out.far (by omega) _ _
          have hR5 : Hid (∀ q, q < 24 → (w4.setCell ⟨w1.heap.size + 1, i, none⟩ (.bool true)).ownsRow (w1.heap.size + 2) 3 1 (V q) (stk ws K q).length ((stk ws K q).map vNat)) := fun q hq => ownsRow_setCell_below (own_below (HI.out.rows q hq) hb4) (by simp) _
          have hK5 : Hid ((w4.setCell ⟨w1.heap.size + 1, i, none⟩ (.bool true)).ownsRow (w1.heap.size + 1) 4 1 (.slice (some ⟨w1.heap.size + 1, 0, none⟩) n n) n (((List.range n).map fun j => Value.bool (inK K j)).set i (.bool true))) := (HK4.out.stored i (.bool true)).1
          have hO5 : Hid (Below w1.heap.size w1 (w4.setCell ⟨w1.heap.size + 1, i, none⟩ (.bool true))) := ((HI.out.old.trans (hb4.mono (by omega))).setCell (by simp) _)
          have p0 : (w4.setCell ⟨w1.heap.size + 1, i, none⟩ (.bool true)).cell? ⟨wo.heap.size, 1, none⟩ = some (.int .i64 (a : Int)) := by rw [World.cell?_setCell_other _ _ _ _ (by intro e; injection e; omega)]; exact g1
          have hz5 : wo.heap.size < (w4.setCell ⟨w1.heap.size + 1, i, none⟩ (.bool true)).heap.size := by rw [World.size_setCell]; exact hz4
          clear kt kf g0 g1 g2
          generalize (w4.setCell ⟨w1.heap.size + 1, i, none⟩ (.bool true)) = W5 at *
          have m0 : W5.cell? ⟨w1.heap.size, a, none⟩ = some (.slice A0 (stk ws K a).length k0) := by rw [has_at hH5 (by omega)]; exact congrArg some HV0.out
          have m1 : W5.cell? ⟨w1.heap.size, a + 1, none⟩ = some (.slice A1 (stk ws K (a + 1)).length k1) := by rw [has_at hH5 (by omega)]; exact congrArg some HV1.out
          have n0 := hH5.free a
          have n1 := hH5.free (a + 1)
          have P : Hid (PushSt ws w1.heap.size n w1 i K V a wo.heap.size none none W5) := {
            has := hH5
            rows := fun q hq _ _ => hR5.out q hq
            row0 := fun v hv => by cases hv
            row1 := fun v hv => by cases hv
            two := fun v0 v1 h0 h1 => by cases h0
            kept := hK5.out
            old := hO5.out
            far := fun q hq g hg => (HI.out.rows q hq).lt g hg
            apart := HI.out.apart
            low := hT1
            big := hz5
            box := p0 }
          have HH5 := Lib.hid hH5; clear hH5
          have i1 : (0 : Int) ≤ (a : Int) := by omega
          have i2 : (a : Int) < 24 := by omega
          have i3 : IntKind.i64.wrap ((a : Int) + 1) = (a : Int) + 1 := IntWalk.i64_in _ (by omega)
          have i4 : (0 : Int) ≤ (a : Int) + 1 := by omega
          have i5 : (a : Int) + 1 < 24 := by omega
          have i6 : ((a : Int) + 1).toNat = a + 1 := by omega
          have z5 : w1.heap.size < W5.heap.size := by omega
          have P6 := P.out.drew
          have ha24 : a + 1 < 24 := by omega
          have hTh : w1.heap.size < wo.heap.size := hzT
          have hl0' : (stk ws K a).length + 1 ≤ 1000000000 := by omega
          have hl1' : (stk ws K (a + 1)).length + 1 ≤ 1000000000 := by omega
          have hfa : ∀ g, (Value.slice A0 (stk ws K a).length k0).ownBlock = some g → g < wo.heap.size := fun g hg => (P.out.far a (Nat.lt_of_succ_lt ha24) g (by rw [HV0.out]; exact hg)).2
          have h8' : (8 : Nat) ≤ 100 := by omega
          have h1' : (0 : Nat) < 1 := by omega
          refine wp_region_noPanic ?_
          refine wp_region_B (fun b w' => w'.cell? ⟨wo.heap.size, 1, none⟩ = some (.int .i64 (a : Int)) ∧ (b = false → w'.cell? ⟨w1.heap.size, a, none⟩ = some (.slice A0 (stk ws K a).length k0) ∧ w'.cell? ⟨w1.heap.size, a + 1, none⟩ = some (.slice A1 (stk ws K (a + 1)).length k1))) 21 (by kernel_rfl) ?_
          clear m0 m1 p0 n0 n1 hR5 hK5 hO5
          have z6 : w1.heap.size < W5.drew.heap.size := z5
          generalize W5.drew = W6 at *
          have hS6 : (fun b w' => w'.cell? ⟨wo.heap.size, 1, none⟩ = some (.int .i64 (a : Int)) ∧ (b = false → w'.cell? ⟨w1.heap.size, a, none⟩ = some (.slice A0 (stk ws K a).length k0) ∧ w'.cell? ⟨w1.heap.size, a + 1, none⟩ = some (.slice A1 (stk ws K (a + 1)).length k1))) false W6 := ⟨P6.box, fun _ => ⟨(P6.at_ (Nat.lt_of_succ_lt ha24)).trans (congrArg some HV0.out), (P6.at_ ha24).trans (congrArg some HV1.out)⟩⟩
          refine wpAnyB_take (i := 0) (oi := _) (v := ?vv1) (fun w' => w'.cell? ⟨wo.heap.size, 1, none⟩ = some (.int .i64 (a : Int))) rfl (by kernel_rfl) (by kernel_rfl) (by kernel_rfl) (by kernel_rfl) (by rfl) (fun _ h => h.1) (.inl fun _ h => h.1) (fun _ _ _ h => h) (.inl ⟨by rfl, ?hy1⟩) hS6 ?_
          case hy1 =>
            intro w' hSw
            try dsimp only at hSw
            go_simp
            all_goals with_reducible rfl
          try simp only [Act.put, List.setIfInBounds_toArray]
          refine wpAnyB_take (i := 1) (oi := _) (v := ?vv2) (fun w' => w'.cell? ⟨wo.heap.size, 1, none⟩ = some (.int .i64 (a : Int))) rfl (by kernel_rfl) (by kernel_rfl) (by kernel_rfl) (by kernel_rfl) (by rfl) (fun _ h => h.1) (.inl fun _ h => h.1) (fun _ _ _ h => h) (.inl ⟨by rfl, ?hy2⟩) hS6 ?_
          case hy2 =>
            intro w' hSw
            try dsimp only at hSw
            go_simp
            all_goals with_reducible rfl
          try simp only [Act.put]
          refine wpAnyB_take (i := 2) (oi := _) (v := ?vv3) (fun w' => w'.cell? ⟨wo.heap.size, 1, none⟩ = some (.int .i64 (a : Int))) rfl (by kernel_rfl) (by kernel_rfl) (by kernel_rfl) (by kernel_rfl) (by rfl) (fun _ h => h.1) (.inl fun _ h => h.1) (fun _ _ _ h => h) (.inl ⟨by rfl, ?hy3⟩) hS6 ?_
          case hy3 =>
            intro w' hSw
            try dsimp only at hSw
            go_simp
            all_goals with_reducible rfl
          try simp only [Act.put]
          refine wpAnyB_take (i := 3) (oi := _) (v := ?vv4) (fun w' => w'.cell? ⟨wo.heap.size, 1, none⟩ = some (.int .i64 (a : Int))) rfl (by kernel_rfl) (by kernel_rfl) (by kernel_rfl) (by kernel_rfl) (by rfl) (fun _ h => h.1) (.inl fun _ h => h.1) (fun _ _ _ h => h) (.inl ⟨by rfl, ?hy4⟩) hS6 ?_
          case hy4 =>
            intro w' hSw
            try dsimp only at hSw
            go_simp
            all_goals with_reducible rfl
          try simp only [Act.put]
          refine wpAnyB_take (i := 4) (oi := _) (v := ?vv5) (fun w' => w'.cell? ⟨wo.heap.size, 1, none⟩ = some (.int .i64 (a : Int))) rfl (by kernel_rfl) (by kernel_rfl) (by kernel_rfl) (by kernel_rfl) (by rfl) (fun _ h => h.1) (.inl fun _ h => h.1) (fun _ _ _ h => h) (.inl ⟨by rfl, ?hy5⟩) hS6 ?_
          case hy5 =>
            intro w' hSw
            try dsimp only at hSw
            go_simp
            all_goals with_reducible rfl
          try simp only [Act.put]
          refine wpAnyB_take (i := 5) (oi := _) (v := ?vv6) (fun w' => w'.cell? ⟨wo.heap.size, 1, none⟩ = some (.int .i64 (a : Int))) rfl (by kernel_rfl) (by kernel_rfl) (by kernel_rfl) (by kernel_rfl) (by rfl) (fun _ h => h.1) (.inl fun _ h => h.1) (fun _ _ _ h => h) (.inl ⟨by rfl, ?hy6⟩) hS6 ?_
          case hy6 =>
            intro w' hSw
            try dsimp only at hSw
            go_simp
            all_goals with_reducible rfl
          try simp only [Act.put]
          refine wpAnyB_take (i := 6) (oi := _) (v := ?vv7) (fun w' => w'.cell? ⟨wo.heap.size, 1, none⟩ = some (.int .i64 (a : Int))) rfl (by kernel_rfl) (by kernel_rfl) (by kernel_rfl) (by kernel_rfl) (by rfl) (fun _ h => h.1) (.inl fun _ h => h.1) (fun _ _ _ h => h) (.inl ⟨by rfl, ?hy7⟩) hS6 ?_
          case hy7 =>
            intro w' hSw
            try dsimp only at hSw
            go_simp
            all_goals with_reducible rfl
          try simp only [Act.put]
          refine wpAnyB_take (i := 7) (oi := _) (v := ?vv8) (fun w' => w'.cell? ⟨wo.heap.size, 1, none⟩ = some (.int .i64 (a : Int))) rfl (by kernel_rfl) (by kernel_rfl) (by kernel_rfl) (by kernel_rfl) (by rfl) (fun _ h => h.1) (.inl fun _ h => h.1) (fun _ _ _ h => h) (.inl ⟨by rfl, ?hy8⟩) hS6 ?_
          case hy8 =>
            intro w' hSw
            try dsimp only at hSw
            go_simp
            all_goals with_reducible rfl
          try simp only [Act.put]
          refine wpAnyB_take (i := 8) (oi := _) (v := ?vv9) (fun w' => w'.cell? ⟨wo.heap.size, 1, none⟩ = some (.int .i64 (a : Int)) ∧ w'.cell? ⟨w1.heap.size, a, none⟩ = some (.slice A0 (stk ws K a).length k0) ∧ w'.cell? ⟨w1.heap.size, a + 1, none⟩ = some (.slice A1 (stk ws K (a + 1)).length k1)) rfl (by kernel_rfl) (by kernel_rfl) (by kernel_rfl) (by kernel_rfl) (by rfl) (fun _ h => ⟨h.1, h.2 rfl⟩) (.inr (by kernel_rfl)) (fun _ _ _ h => h) (.inl ⟨by rfl, ?hy9⟩) hS6 ?_
          case hy9 =>
            intro w' hSw
            try dsimp only at hSw
            go_simp
            all_goals with_reducible rfl
          try simp only [Act.put]
          refine wpAnyB_take (i := 9) (oi := _) (v := ?vv10) (fun w' => w'.cell? ⟨wo.heap.size, 1, none⟩ = some (.int .i64 (a : Int))) rfl (by kernel_rfl) (by kernel_rfl) (by kernel_rfl) (by kernel_rfl) (by rfl) (fun _ h => h.1) (.inl fun _ h => h.1) (fun _ _ _ h => h) (.inl ⟨by rfl, ?hy10⟩) hS6 ?_
          case hy10 =>
            intro w' hSw
            try dsimp only at hSw
            go_simp
            all_goals with_reducible rfl
          try simp only [Act.put]
          refine wpAnyB_take (i := 12) (oi := _) (v := ?vv11) (fun w' => w'.cell? ⟨wo.heap.size, 1, none⟩ = some (.int .i64 (a : Int))) rfl (by kernel_rfl) (by kernel_rfl) (by kernel_rfl) (by kernel_rfl) (by rfl) (fun _ h => h.1) (.inl fun _ h => h.1) (fun _ _ _ h => h) (.inl ⟨by rfl, ?hy11⟩) hS6 ?_
          case hy11 =>
            intro w' hSw
            try dsimp only at hSw
            go_simp
            all_goals with_reducible rfl
          try simp only [Act.put]
          refine wpAnyB_take (i := 13) (oi := _) (v := ?vv12) (fun w' => w'.cell? ⟨wo.heap.size, 1, none⟩ = some (.int .i64 (a : Int))) rfl (by kernel_rfl) (by kernel_rfl) (by kernel_rfl) (by kernel_rfl) (by rfl) (fun _ h => h.1) (.inl fun _ h => h.1) (fun _ _ _ h => h) (.inl ⟨by rfl, ?hy12⟩) hS6 ?_
          case hy12 =>
            intro w' hSw
            try dsimp only at hSw
            go_simp
            all_goals with_reducible rfl
          try simp only [Act.put]
          refine wpAnyB_take (i := 14) (oi := _) (v := ?vv13) (fun w' => w'.cell? ⟨wo.heap.size, 1, none⟩ = some (.int .i64 (a : Int))) rfl (by kernel_rfl) (by kernel_rfl) (by kernel_rfl) (by kernel_rfl) (by rfl) (fun _ h => h.1) (.inl fun _ h => h.1) (fun _ _ _ h => h) (.inl ⟨by rfl, ?hy13⟩) hS6 ?_
          case hy13 =>
            intro w' hSw
            try dsimp only at hSw
            go_simp
            all_goals with_reducible rfl
          try simp only [Act.put]
          refine wpAnyB_take (i := 15) (oi := _) (v := ?vv14) (fun w' => w'.cell? ⟨wo.heap.size, 1, none⟩ = some (.int .i64 (a : Int))) rfl (by kernel_rfl) (by kernel_rfl) (by kernel_rfl) (by kernel_rfl) (by rfl) (fun _ h => h.1) (.inl fun _ h => h.1) (fun _ _ _ h => h) (.inl ⟨by rfl, ?hy14⟩) hS6 ?_
          case hy14 =>
            intro w' hSw
            try dsimp only at hSw
            go_simp
            all_goals with_reducible rfl
          try simp only [Act.put]
          refine wpAnyB_take (i := 16) (oi := _) (v := ?vv15) (fun w' => w'.cell? ⟨wo.heap.size, 1, none⟩ = some (.int .i64 (a : Int)) ∧ w'.cell? ⟨w1.heap.size, a, none⟩ = some (.slice A0 (stk ws K a).length k0) ∧ w'.cell? ⟨w1.heap.size, a + 1, none⟩ = some (.slice A1 (stk ws K (a + 1)).length k1)) rfl (by kernel_rfl) (by kernel_rfl) (by kernel_rfl) (by kernel_rfl) (by rfl) (fun _ h => ⟨h.1, h.2 rfl⟩) (.inr (by kernel_rfl)) (fun _ _ _ h => h) (.inl ⟨by rfl, ?hy15⟩) hS6 ?_
          case hy15 =>
            intro w' hSw
            try dsimp only at hSw
            go_simp
            all_goals with_reducible rfl
          try simp only [Act.put]
          refine wpAnyB_take (i := 17) (oi := _) (v := ?vv16) (fun w' => w'.cell? ⟨wo.heap.size, 1, none⟩ = some (.int .i64 (a : Int))) rfl (by kernel_rfl) (by kernel_rfl) (by kernel_rfl) (by kernel_rfl) (by rfl) (fun _ h => h.1) (.inl fun _ h => h.1) (fun _ _ _ h => h) (.inl ⟨by rfl, ?hy16⟩) hS6 ?_
          case hy16 =>
            intro w' hSw
            try dsimp only at hSw
            go_simp
            all_goals with_reducible rfl
          try simp only [Act.put]
          refine wpAnyB_two (i := 10) (j := 18) false rfl rfl (by kernel_rfl) (by kernel_rfl) (by kernel_rfl) ?_ ?_
          · intro KK hKK
            go_simp
            have P7 := PushSt.alloc P6 (.cells #[.int .i64 (i : Int)] 3)
            have tA : (World.alloc W6 (.cells #[.int .i64 (i : Int)] 3)).cell? ⟨W6.heap.size, 0, none⟩ = some (vNat i) := by go_simp; all_goals rfl
            have zW7 : W6.heap.size < (World.alloc W6 (.cells #[.int .i64 (i : Int)] 3)).heap.size := by simp
            generalize (World.alloc W6 (.cells #[.int .i64 (i : Int)] 3)) = W7 at *
            refine hKK.out _ _ ⟨P7.box, fun _ => ⟨(P7.at_ (Nat.lt_of_succ_lt ha24)).trans (congrArg some HV0.out), (P7.at_ ha24).trans (congrArg some HV1.out)⟩⟩ ?_
            clear hKK KK
            try simp only [Act.put, List.setIfInBounds_toArray, List.set_cons_zero, List.set_cons_succ]
            refine wpAnyB_two (i := 11) (j := 18) false rfl rfl (by kernel_rfl) (by kernel_rfl) (by kernel_rfl) ?_ ?_
            · intro KK hKK
              refine step_appN rfl (.tmp 99) (.tmp 101) _ rfl (w1.heap.size + 2) 3 (.int .i64 0) 1 8 Try.underlying29 infoInt rfl h1' h8' (.slice A0 (stk ws K a).length k0) (stk ws K a).length ((stk ws K a).map vNat) rfl (PushSt.rowA P7 ha24 HV0.out) _ 1 1 [vNat i] rfl rfl (news1 tA) (one_int _ _) hl0' (Nat.le_trans P7.low (Nat.le_of_lt P7.big)) ?_
              intro v0 W8 ho hg hn hr
              clear hn
              obtain ⟨v0A, v0k, v0e⟩ := own_form ho
              subst v0e
              have P8 := PushSt.appA P7 ha24 HV0.out hg ho hr
              clear ho hr hg
              refine hKK.out _ _ ⟨P8.box, fun _ => ⟨(P8.at_ (Nat.lt_of_succ_lt ha24)).trans (congrArg some HV0.out), (P8.at_ ha24).trans (congrArg some HV1.out)⟩⟩ ?_
              clear hKK KK
              try simp only [Act.put, List.setIfInBounds_toArray]
              refine wpAnyB_take (i := 20) (oi := _) (v := ?vv17) (fun w' => w'.cell? ⟨wo.heap.size, 1, none⟩ = some (.int .i64 (a : Int))) rfl (by kernel_rfl) (by kernel_rfl) (by kernel_rfl) (by kernel_rfl) (by rfl) (fun _ h => h.1) (.inl fun _ h => h.1) (fun _ _ _ h => h) (.inl ⟨by rfl, ?hy17⟩) ⟨P8.box, fun _ => ⟨(P8.at_ (Nat.lt_of_succ_lt ha24)).trans (congrArg some HV0.out), (P8.at_ ha24).trans (congrArg some HV1.out)⟩⟩ ?_
              case hy17 =>
                intro w' hSw
                try dsimp only at hSw
                go_simp
                all_goals with_reducible rfl
              try simp only [Act.put]
              refine wpAnyB_one (i := 18) false rfl (by kernel_rfl) (by kernel_rfl) ?_
              intro KK hKK
              go_simp
              have P9 := PushSt.alloc P8 (.cells #[.int .i64 (i : Int)] 3)
              have tB : (World.alloc W8 (.cells #[.int .i64 (i : Int)] 3)).cell? ⟨W8.heap.size, 0, none⟩ = some (vNat i) := by go_simp; all_goals rfl
              have zW9 : W8.heap.size < (World.alloc W8 (.cells #[.int .i64 (i : Int)] 3)).heap.size := by simp
              generalize (World.alloc W8 (.cells #[.int .i64 (i : Int)] 3)) = W9 at *
              refine hKK.out _ _ ⟨P9.box, fun _ => ⟨(P9.at_ (Nat.lt_of_succ_lt ha24)).trans (congrArg some HV0.out), (P9.at_ ha24).trans (congrArg some HV1.out)⟩⟩ ?_
              clear hKK KK
              try simp only [Act.put, List.setIfInBounds_toArray, List.set_cons_zero, List.set_cons_succ]
              refine wpAnyB_one (i := 19) false rfl (by kernel_rfl) (by kernel_rfl) ?_
              intro KK hKK
              refine step_appN rfl (.tmp 107) (.tmp 109) _ rfl (w1.heap.size + 2) 3 (.int .i64 0) 1 8 Try.underlying29 infoInt rfl h1' h8' (.slice A1 (stk ws K (a + 1)).length k1) (stk ws K (a + 1)).length ((stk ws K (a + 1)).map vNat) rfl (PushSt.rowB P9 ha24 HV1.out) _ 1 1 [vNat i] rfl rfl (news1 tB) (one_int _ _) hl1' (Nat.le_trans P9.low (Nat.le_of_lt P9.big)) ?_
              intro v1 W10 ho hg hn hr
              clear hn
              obtain ⟨v1A, v1k, v1e⟩ := own_form ho
              subst v1e
              have PD := PushSt.appB P9 ha24 HV1.out hg ho hr
              clear ho hr hg
              refine hKK.out _ _ ⟨PD.box, fun _ => ⟨(PD.at_ (Nat.lt_of_succ_lt ha24)).trans (congrArg some HV0.out), (PD.at_ ha24).trans (congrArg some HV1.out)⟩⟩ ?_
              clear hKK KK
              try simp only [Act.put, List.setIfInBounds_toArray]
              refine wpAnyB_one (i := 21) true rfl (by kernel_rfl) (by kernel_rfl) ?_
              intro KK hKK
              have y1 := (PD.at_ (Nat.lt_of_succ_lt ha24))
              have y2 := (PD.at_ ha24)
              have y3 := PD.frz a
              have y4 := PD.frz (a + 1)
              have y5 := PD.box
              have y6 := PD.has.lt
              go_simp
              refine hKK.out _ _ ⟨(World.cell?_setCell_far _ _ _ _ (Nat.ne_of_lt hTh)).trans PD.box, fun h => by cases h⟩ ?_
              clear hKK KK
              try simp only [Act.put, List.setIfInBounds_toArray, List.set_cons_zero, List.set_cons_succ]
              refine wpAnyB_one (i := 22) true rfl (by kernel_rfl) (by kernel_rfl) ?_
              intro KK hKK
              go_simp
              refine hKK.out _ _ ⟨(World.cell?_setCell_far _ _ _ _ (Nat.ne_of_lt hTh)).trans PD.box, fun h => by cases h⟩ ?_
              clear hKK KK
              try simp only [Act.put, List.setIfInBounds_toArray, List.set_cons_zero, List.set_cons_succ]
              refine wpAnyB_one (i := 23) true rfl (by kernel_rfl) (by kernel_rfl) ?_
              intro KK hKK
              go_simp
              refine hKK.out _ _ ⟨(World.cell?_setCell_far _ _ _ _ (Nat.ne_of_lt hTh)).trans ((World.cell?_setCell_far _ _ _ _ (Nat.ne_of_lt hTh)).trans PD.box), fun h => by cases h⟩ ?_
              clear hKK KK
              try simp only [Act.put, List.setIfInBounds_toArray, List.set_cons_zero, List.set_cons_succ]
              refine wpAnyB_done (by kernel_rfl) (NoPanic.normal ?_) _
              clear y1 y2 y3 y4 y5 y6 i1 i2 i3 i4 i5 i6
              have hEND := Lib.hid (PushSt.done PD HI.out rfl HX.out HA.out ha24 H8.out)
              clear PD
              go_wp2
              go_roundw
              case rel => exact ⟨i + 1, K ++ [i], _, by omega, by go_num, hEND.out⟩
              case measure => first | (simp [intOf]; done) | (simp [intOf]; omega)
            · intro KK hKK
              go_simp
              have P8 := PushSt.alloc P7 (.cells #[.int .i64 (i : Int)] 3)
              have tB : (World.alloc W7 (.cells #[.int .i64 (i : Int)] 3)).cell? ⟨W7.heap.size, 0, none⟩ = some (vNat i) := by go_simp; all_goals rfl
              have zW8 : W7.heap.size < (World.alloc W7 (.cells #[.int .i64 (i : Int)] 3)).heap.size := by simp
              have tA' := (World.cell?_alloc_lt W7 (.cells #[.int .i64 (i : Int)] 3) ⟨W6.heap.size, 0, none⟩ (by exact zW7)).trans tA
              generalize (World.alloc W7 (.cells #[.int .i64 (i : Int)] 3)) = W8 at *
              refine hKK.out _ _ ⟨P8.box, fun _ => ⟨(P8.at_ (Nat.lt_of_succ_lt ha24)).trans (congrArg some HV0.out), (P8.at_ ha24).trans (congrArg some HV1.out)⟩⟩ ?_
              clear hKK KK
              try simp only [Act.put, List.setIfInBounds_toArray, List.set_cons_zero, List.set_cons_succ]
              refine wpAnyB_one (i := 11) false rfl (by kernel_rfl) (by kernel_rfl) ?_
              intro KK hKK
              refine step_appN rfl (.tmp 99) (.tmp 101) _ rfl (w1.heap.size + 2) 3 (.int .i64 0) 1 8 Try.underlying29 infoInt rfl h1' h8' (.slice A0 (stk ws K a).length k0) (stk ws K a).length ((stk ws K a).map vNat) rfl (PushSt.rowA P8 ha24 HV0.out) _ 1 1 [vNat i] rfl rfl (news1 tA') (one_int _ _) hl0' (Nat.le_trans P8.low (Nat.le_of_lt P8.big)) ?_
              intro v0 W9 ho hg hn hr
              clear hn
              obtain ⟨v0A, v0k, v0e⟩ := own_form ho
              subst v0e
              have P9 := PushSt.appA P8 ha24 HV0.out hg ho hr
              have tB9 := tmp_keep hg zW8 (fun g e => Nat.lt_trans (hfa g e) P7.big) tB
              clear ho hr hg
              refine hKK.out _ _ ⟨P9.box, fun _ => ⟨(P9.at_ (Nat.lt_of_succ_lt ha24)).trans (congrArg some HV0.out), (P9.at_ ha24).trans (congrArg some HV1.out)⟩⟩ ?_
              clear hKK KK
              try simp only [Act.put, List.setIfInBounds_toArray]
              refine wpAnyB_take (i := 20) (oi := _) (v := ?vv20) (fun w' => w'.cell? ⟨wo.heap.size, 1, none⟩ = some (.int .i64 (a : Int))) rfl (by kernel_rfl) (by kernel_rfl) (by kernel_rfl) (by kernel_rfl) (by rfl) (fun _ h => h.1) (.inl fun _ h => h.1) (fun _ _ _ h => h) (.inl ⟨by rfl, ?hy20⟩) ⟨P9.box, fun _ => ⟨(P9.at_ (Nat.lt_of_succ_lt ha24)).trans (congrArg some HV0.out), (P9.at_ ha24).trans (congrArg some HV1.out)⟩⟩ ?_
              case hy20 =>
                intro w' hSw
                try dsimp only at hSw
                go_simp
                all_goals with_reducible rfl
              try simp only [Act.put]
              refine wpAnyB_one (i := 19) false rfl (by kernel_rfl) (by kernel_rfl) ?_
              intro KK hKK
              refine step_appN rfl (.tmp 107) (.tmp 109) _ rfl (w1.heap.size + 2) 3 (.int .i64 0) 1 8 Try.underlying29 infoInt rfl h1' h8' (.slice A1 (stk ws K (a + 1)).length k1) (stk ws K (a + 1)).length ((stk ws K (a + 1)).map vNat) rfl (PushSt.rowB P9 ha24 HV1.out) _ 1 1 [vNat i] rfl rfl (news1 tB9) (one_int _ _) hl1' (Nat.le_trans P9.low (Nat.le_of_lt P9.big)) ?_
              intro v1 W10 ho hg hn hr
              clear hn
              obtain ⟨v1A, v1k, v1e⟩ := own_form ho
              subst v1e
              have PD := PushSt.appB P9 ha24 HV1.out hg ho hr
              clear ho hr hg
              refine hKK.out _ _ ⟨PD.box, fun _ => ⟨(PD.at_ (Nat.lt_of_succ_lt ha24)).trans (congrArg some HV0.out), (PD.at_ ha24).trans (congrArg some HV1.out)⟩⟩ ?_
              clear hKK KK
              try simp only [Act.put]
              refine wpAnyB_one (i := 21) true rfl (by kernel_rfl) (by kernel_rfl) ?_
              intro KK hKK
              have y1 := (PD.at_ (Nat.lt_of_succ_lt ha24))
              have y2 := (PD.at_ ha24)
              have y3 := PD.frz a
              have y4 := PD.frz (a + 1)
              have y5 := PD.box
              have y6 := PD.has.lt
              go_simp
              refine hKK.out _ _ ⟨(World.cell?_setCell_far _ _ _ _ (Nat.ne_of_lt hTh)).trans PD.box, fun h => by cases h⟩ ?_
              clear hKK KK
              try simp only [Act.put, List.setIfInBounds_toArray, List.set_cons_zero, List.set_cons_succ]
              refine wpAnyB_one (i := 22) true rfl (by kernel_rfl) (by kernel_rfl) ?_
              intro KK hKK
              go_simp
              refine hKK.out _ _ ⟨(World.cell?_setCell_far _ _ _ _ (Nat.ne_of_lt hTh)).trans PD.box, fun h => by cases h⟩ ?_
              clear hKK KK
              try simp only [Act.put, List.setIfInBounds_toArray, List.set_cons_zero, List.set_cons_succ]
              refine wpAnyB_one (i := 23) true rfl (by kernel_rfl) (by kernel_rfl) ?_
              intro KK hKK
              go_simp
              refine hKK.out _ _ ⟨(World.cell?_setCell_far _ _ _ _ (Nat.ne_of_lt hTh)).trans ((World.cell?_setCell_far _ _ _ _ (Nat.ne_of_lt hTh)).trans PD.box), fun h => by cases h⟩ ?_
              clear hKK KK
              try simp only [Act.put, List.setIfInBounds_toArray, List.set_cons_zero, List.set_cons_succ]
              refine wpAnyB_done (by kernel_rfl) (NoPanic.normal ?_) _
              clear y1 y2 y3 y4 y5 y6 i1 i2 i3 i4 i5 i6
              have hEND := Lib.hid (PushSt.done PD HI.out rfl HX.out HA.out ha24 H8.out)
              clear PD
              go_wp2
              go_roundw
              case rel => exact ⟨i + 1, K ++ [i], _, by omega, by go_num, hEND.out⟩
              case measure => first | (simp [intOf]; done) | (simp [intOf]; omega)
          · intro KK hKK
            go_simp
            have P7 := PushSt.alloc P6 (.cells #[.int .i64 (i : Int)] 3)
            have tB : (World.alloc W6 (.cells #[.int .i64 (i : Int)] 3)).cell? ⟨W6.heap.size, 0, none⟩ = some (vNat i) := by go_simp; all_goals rfl
            have zW7 : W6.heap.size < (World.alloc W6 (.cells #[.int .i64 (i : Int)] 3)).heap.size := by simp
            generalize (World.alloc W6 (.cells #[.int .i64 (i : Int)] 3)) = W7 at *
            refine hKK.out _ _ ⟨P7.box, fun _ => ⟨(P7.at_ (Nat.lt_of_succ_lt ha24)).trans (congrArg some HV0.out), (P7.at_ ha24).trans (congrArg some HV1.out)⟩⟩ ?_
            clear hKK KK
            try simp only [Act.put, List.setIfInBounds_toArray, List.set_cons_zero, List.set_cons_succ]
            refine wpAnyB_one (i := 10) false rfl (by kernel_rfl) (by kernel_rfl) ?_
            intro KK hKK
            go_simp
            have P8 := PushSt.alloc P7 (.cells #[.int .i64 (i : Int)] 3)
            have tA : (World.alloc W7 (.cells #[.int .i64 (i : Int)] 3)).cell? ⟨W7.heap.size, 0, none⟩ = some (vNat i) := by go_simp; all_goals rfl
            have zW8 : W7.heap.size < (World.alloc W7 (.cells #[.int .i64 (i : Int)] 3)).heap.size := by simp
            have tB' := (World.cell?_alloc_lt W7 (.cells #[.int .i64 (i : Int)] 3) ⟨W6.heap.size, 0, none⟩ (by exact zW7)).trans tB
            generalize (World.alloc W7 (.cells #[.int .i64 (i : Int)] 3)) = W8 at *
            refine hKK.out _ _ ⟨P8.box, fun _ => ⟨(P8.at_ (Nat.lt_of_succ_lt ha24)).trans (congrArg some HV0.out), (P8.at_ ha24).trans (congrArg some HV1.out)⟩⟩ ?_
            clear hKK KK
            try simp only [Act.put, List.setIfInBounds_toArray, List.set_cons_zero, List.set_cons_succ]
            refine wpAnyB_one (i := 11) false rfl (by kernel_rfl) (by kernel_rfl) ?_
            intro KK hKK
            refine step_appN rfl (.tmp 99) (.tmp 101) _ rfl (w1.heap.size + 2) 3 (.int .i64 0) 1 8 Try.underlying29 infoInt rfl h1' h8' (.slice A0 (stk ws K a).length k0) (stk ws K a).length ((stk ws K a).map vNat) rfl (PushSt.rowA P8 ha24 HV0.out) _ 1 1 [vNat i] rfl rfl (news1 tA) (one_int _ _) hl0' (Nat.le_trans P8.low (Nat.le_of_lt P8.big)) ?_
            intro v0 W9 ho hg hn hr
            clear hn
            obtain ⟨v0A, v0k, v0e⟩ := own_form ho
            subst v0e
            have P9 := PushSt.appA P8 ha24 HV0.out hg ho hr
            have tB9 := tmp_keep hg (Nat.lt_trans zW7 zW8) (fun g e => Nat.lt_trans (hfa g e) P6.big) tB'
            clear ho hr hg
            refine hKK.out _ _ ⟨P9.box, fun _ => ⟨(P9.at_ (Nat.lt_of_succ_lt ha24)).trans (congrArg some HV0.out), (P9.at_ ha24).trans (congrArg some HV1.out)⟩⟩ ?_
            clear hKK KK
            try simp only [Act.put, List.setIfInBounds_toArray]
            refine wpAnyB_take (i := 20) (oi := _) (v := ?vv23) (fun w' => w'.cell? ⟨wo.heap.size, 1, none⟩ = some (.int .i64 (a : Int))) rfl (by kernel_rfl) (by kernel_rfl) (by kernel_rfl) (by kernel_rfl) (by rfl) (fun _ h => h.1) (.inl fun _ h => h.1) (fun _ _ _ h => h) (.inl ⟨by rfl, ?hy23⟩) ⟨P9.box, fun _ => ⟨(P9.at_ (Nat.lt_of_succ_lt ha24)).trans (congrArg some HV0.out), (P9.at_ ha24).trans (congrArg some HV1.out)⟩⟩ ?_
            case hy23 =>
              intro w' hSw
              try dsimp only at hSw
              go_simp
              all_goals with_reducible rfl
            try simp only [Act.put]
            refine wpAnyB_one (i := 19) false rfl (by kernel_rfl) (by kernel_rfl) ?_
            intro KK hKK
            refine step_appN rfl (.tmp 107) (.tmp 109) _ rfl (w1.heap.size + 2) 3 (.int .i64 0) 1 8 Try.underlying29 infoInt rfl h1' h8' (.slice A1 (stk ws K (a + 1)).length k1) (stk ws K (a + 1)).length ((stk ws K (a + 1)).map vNat) rfl (PushSt.rowB P9 ha24 HV1.out) _ 1 1 [vNat i] rfl rfl (news1 tB9) (one_int _ _) hl1' (Nat.le_trans P9.low (Nat.le_of_lt P9.big)) ?_
            intro v1 W10 ho hg hn hr
            clear hn
            obtain ⟨v1A, v1k, v1e⟩ := own_form ho
            subst v1e
            have PD := PushSt.appB P9 ha24 HV1.out hg ho hr
            clear ho hr hg
            refine hKK.out _ _ ⟨PD.box, fun _ => ⟨(PD.at_ (Nat.lt_of_succ_lt ha24)).trans (congrArg some HV0.out), (PD.at_ ha24).trans (congrArg some HV1.out)⟩⟩ ?_
            clear hKK KK
            try simp only [Act.put]
            refine wpAnyB_one (i := 21) true rfl (by kernel_rfl) (by kernel_rfl) ?_
            intro KK hKK
            have y1 := (PD.at_ (Nat.lt_of_succ_lt ha24))
            have y2 := (PD.at_ ha24)
            have y3 := PD.frz a
            have y4 := PD.frz (a + 1)
            have y5 := PD.box
            have y6 := PD.has.lt
            go_simp
            refine hKK.out _ _ ⟨(World.cell?_setCell_far _ _ _ _ (Nat.ne_of_lt hTh)).trans PD.box, fun h => by cases h⟩ ?_
            clear hKK KK
            try simp only [Act.put, List.setIfInBounds_toArray, List.set_cons_zero, List.set_cons_succ]
            refine wpAnyB_one (i := 22) true rfl (by kernel_rfl) (by kernel_rfl) ?_
            intro KK hKK
            go_simp
            refine hKK.out _ _ ⟨(World.cell?_setCell_far _ _ _ _ (Nat.ne_of_lt hTh)).trans PD.box, fun h => by cases h⟩ ?_
            clear hKK KK
            try simp only [Act.put, List.setIfInBounds_toArray, List.set_cons_zero, List.set_cons_succ]
            refine wpAnyB_one (i := 23) true rfl (by kernel_rfl) (by kernel_rfl) ?_
            intro KK hKK
            go_simp
            refine hKK.out _ _ ⟨(World.cell?_setCell_far _ _ _ _ (Nat.ne_of_lt hTh)).trans ((World.cell?_setCell_far _ _ _ _ (Nat.ne_of_lt hTh)).trans PD.box), fun h => by cases h⟩ ?_
            clear hKK KK
            try simp only [Act.put, List.setIfInBounds_toArray, List.set_cons_zero, List.set_cons_succ]
            refine wpAnyB_done (by kernel_rfl) (NoPanic.normal ?_) _
            clear y1 y2 y3 y4 y5 y6 i1 i2 i3 i4 i5 i6
            have hEND := Lib.hid (PushSt.done PD HI.out rfl HX.out HA.out ha24 H8.out)
            clear PD
            go_wp2
            go_roundw
            case rel => exact ⟨i + 1, K ++ [i], _, by omega, by go_num, hEND.out⟩
            case measure => first | (simp [intOf]; done) | (simp [intOf]; omega)
    · -- EXIT
      obtain rfl : i = n := by omega
      have HI := Lib.hid I; clear I
      have hO : Has (wo.alloc (.cells #[.int .i64 p, .slice none 0 0] 24)) wo.heap.size 24 [.int .i64 p, .slice none 0 0] := Has.new rfl
      have hB0 : Below wo.heap.size wo (wo.alloc (.cells #[.int .i64 p, .slice none 0 0] 24)) := by go_grown
      go_wp2
      generalize (wo.alloc (.cells #[.int .i64 p, .slice none 0 0] 24)) = W0 at *
      go_loopw [120] (fun s120 wr => ∃ (k : Nat) (A' : Option Addr) (c' : Nat), k ≤ i ∧ s120 = .int .i64 (k : Int) ∧ Has wr wo.heap.size 24 [.int .i64 p, .slice A' (wks ws (upTo K k)).length c'] ∧ wr.ownsRow (wo.heap.size + 1) 26 3 (.slice A' (wks ws (upTo K k)).length c') (wks ws (upTo K k)).length (wksCells (wks ws (upTo K k))) ∧ Below wo.heap.size wo wr)
        (fun s120 _ => i - (intOf s120).toNat)
      case atStart => exact ⟨0, none, 0, Nat.zero_le _, rfl, hO, World.ownsRow_nil _ _ _ _, hB0⟩
      case round =>
        clear hO hB0
        obtain ⟨k, A', c', hk, rfl, hS, hOw, hB⟩ := hrel
        have hWr : Below w.heap.size w wr := hW.trans (hB.mono (by omega))
        have hzr : wo.heap.size < wr.heap.size := hS.lt
        by_cases hlt2 : k < i
        · obtain ⟨x, hx⟩ := get_of_lt (l := ws) (k := k) (by rw [HL.out]; exact hlt2)
          obtain ⟨ba, o, rfl, hb, c1, c2, c3⟩ := (HW.out.below hWr (Nat.le_of_lt (Nat.lt_trans hz0 hzr))) _ x hx
          have kt : wr.cell? ⟨w1.heap.size + 1, k, none⟩ = some (.bool (inK K k)) := by rw [hB.cell (by omega), HI.out.kept.cellAt k (by omega), List.getElem?_map, List.getElem?_range hlt2]; rfl
          have hbz : w1.heap.size + 1 < wr.heap.size := by omega
          have s1 : wr.cell? ⟨wo.heap.size, 1, none⟩ = some (.slice A' (wks ws (upTo K k)).length c') := hS.cell 1
          have s2 := hS.free 1
          have HSS := Lib.hid hS; clear hS
          have HOW := Lib.hid hOw; clear hOw
          have HB := Lib.hid hB; clear hB
          have HX := Lib.hid hx; clear hx
          have hU := upTo_succ K k
          cases hin : inK K k with
          | true =>
            rw [hin] at kt hU
            have hU2 : wks ws (upTo K (k + 1)) = wks ws (upTo K k) ++ [x] := by
              rw [hU, if_pos rfl, wks_app]
              simp [wks, List.getD_eq_getElem?_getD, HX.out]
            have HU := Lib.hid hU2; clear hU hU2
            have hlen : (wks ws (upTo K k)).length ≤ 400 := by
              rw [wks_len]
              have h1 : (upTo K k).length ≤ (List.range k).length := List.length_filter_le _ _
              rw [List.length_range] at h1; omega
            go_wp2_with (at_builtin; go_loud (refine wpList_app rfl (.tmp 130) (.tmp 132) _ rfl (wo.heap.size + 1) 26 (.agg #[.int .i64 0, .int .i64 0, .string ⟨#[]⟩]) 3 32 Try.underlying22 infoWk rfl (by omega) (by omega) (.slice A' (wks ws (upTo K k)).length c') _ _ rfl ((HOW.out.alloc (.cells #[.int .i64 x.kind, .int .i64 x.at_, .string x.word] 26)).alloc (.cells #[.int .i64 x.kind, .int .i64 x.at_, .string x.word] 26)) (wr.heap.size + 1) (wkCells x) rfl rfl (fun j u hu => by have := news_wk (wr.alloc (.cells #[.int .i64 x.kind, .int .i64 x.at_, .string x.word] 26)) x 26 j u hu; rw [World.size_alloc] at this; exact this) (one_wk _) (by omega) (by simp; omega) ?_; intro g1 cap1 w2 hg1 hown1 hgrow1 hor1; have hS2 := ((HSS.out.alloc (.cells #[.int .i64 x.kind, .int .i64 x.at_, .string x.word] 26)).alloc (.cells #[.int .i64 x.kind, .int .i64 x.at_, .string x.word] 26)).same (hgrow1.block wo.heap.size (by simp; omega) (fun e => by have := (HOW.out.lt _ e.symm).1; omega)); have hT1 := hS2.cell 1; have hT2 := hS2.free 1; have hT3 := hS2.lt))
            go_roundw
            case rel =>
              refine ⟨k + 1, some ⟨g1, 0, none⟩, cap1, by omega, by go_num, ?_, ?_, ?_⟩
              · rw [HU.out, List.length_append, List.length_singleton]; exact hS2.set 1 _
              · rw [HU.out, wksCells_app, List.length_append, List.length_singleton]; exact ownsRow_setCell_below hown1 (by simp) _
              · exact ((((HB.out.alloc (by omega) (.cells #[.int .i64 x.kind, .int .i64 x.at_, .string x.word] 26)).alloc (by simp; omega) (.cells #[.int .i64 x.kind, .int .i64 x.at_, .string x.word] 26)).grown hgrow1 (by simp; omega) (fun q hq => by have := (HOW.out.lt q hq).1; omega))).setCell (by simp) _
            case measure => first | (simp [intOf]; done) | (simp [intOf]; omega)
          | false =>
            rw [hin] at kt hU
            have HU := Lib.hid hU; clear hU
            go_wp2
            go_roundw
            case rel => exact ⟨k + 1, A', c', by omega, by go_num, by rw [HU.out]; exact (HSS.out.alloc _), by rw [HU.out]; exact (HOW.out.alloc _), HB.out.alloc (by omega) _⟩
            case measure => first | (simp [intOf]; done) | (simp [intOf]; omega)
        · obtain rfl : k = i := by omega
          have hall : upTo K k = K := upTo_all HI.out.asc HI.out.lt
          have hnet : wks ws (upTo K k) = netL ws := by rw [hall, HI.out.net]; unfold netL; rw [HL.out]
          rw [hnet] at hS hOw
          have m0 : wr.cell? ⟨wo.heap.size, 0, none⟩ = some (.int .i64 p) := hS.cell 0
          have m1 : wr.cell? ⟨wo.heap.size, 1, none⟩ = some (.slice A' (netL ws).length c') := hS.cell 1
          have h1 : Has w1 (w.heap.size + 1) 24 [.int .i64 0, .slice none 0 0] := by
            have := Has.new (w := w.alloc (.cells #[.int .i64 p, .slice A k c] 24)) (arr := #[.int .i64 0, .slice none 0 0]) (t := 24) (cs := [.int .i64 0, .slice none 0 0]) rfl
            simp only [World.size_alloc] at this
            exact this.below hb1 (by simp)
          have h2 := h1.below (HI.out.old.trans (hB.mono (by omega))) (by omega)
          have r0 := h2.free 0
          have r1 := h2.free 1
          have r2 : wr.cell? ⟨w.heap.size + 1, 0, none⟩ = some (.int .i64 0) := h2.cell 0
          have r3 : wr.cell? ⟨w.heap.size + 1, 1, none⟩ = some (.slice none 0 0) := h2.cell 1
          have H2 := Lib.hid h2; clear h1 h2
          have HO := Lib.hid hOw; clear hOw
          clear hS
          go_wp2
          refine post_cell_tmp ((H2.out.set 0 _).set 1 _) Try.results15 rfl rfl rfl Try.underlying24 (by kernel_rfl) ?_
          have hcc := own_caps HO.out
          have hown := ownsRow_setCell_below (ownsRow_setCell_below HO.out (a := ⟨w.heap.size + 1, 0, none⟩) (by simp; omega) (.int .i64 p)) (a := ⟨w.heap.size + 1, 1, none⟩) (by simp; omega) (.slice A' (netL ws).length c')
          exact ⟨A', _, c', rfl, own_rdW hown, rfl, hcc.1, hcc.2, (hWr.setCell (by simp) _).setCell (by simp) _⟩
end Go.Proofs.Ytnjenggijmbhcaa
