/-
  Contract of torchonref05.match where an order is found, and of Same over it.
-/
import Derived.Test.YtnjenggijmbhcaaR05
import Derived.Test.YtnjenggijmbhcaaEq
import Derived.Laws.MakeOwn
namespace Go.Proofs.Ytnjenggijmbhcaa
open Go.RowKit
attribute [local go_sem 10000] eql_wk
theorem infoBool05 : (Try.prog.info? 4).map (fun i => (i.zero, i.size, i.bytes)) = some (some (.bool false), 1, 1) := by kernel_rfl
theorem mkBs05 (n : Nat) (hn : n ≤ 1000) (W : World) : (Instr.makeSlice 50 (.int .i64 (n : Int)) (.int .i64 (n : Int))).run Try.prog W = .ok (.slice (some ⟨W.heap.size, 0, none⟩) n n) (W.alloc (.cells (madeCells #[.bool false] n) 4)) := by
  obtain ⟨i, hi, hz, hs, hb⟩ := info_parts infoBool05
  have h := run_make (P := Try.prog) W 50 4 i (.bool false) Try.underlying50 hi hz .i64 .i64 (n : Int) (n : Int) (by omega) (Int.le_refl _) (by rw [hb]; omega) (by omega)
  rw [Int.toNat_natCast, hs, Nat.mul_one] at h
  simpa [Value.cells] using h
/-- the cells of the list of what is done -/
def dn (D : Nat → Bool) (n : Nat) : List Value := (List.range n).map fun k => .bool (D k)
theorem dn_get {D : Nat → Bool} {n k : Nat} (h : k < n) : (dn D n)[k]? = some (.bool (D k)) := by simp [dn, h]
theorem dn_set (D : Nat → Bool) (n j : Nat) : (dn D n).set j (.bool true) = dn (upd D j) n := by
  apply List.ext_getElem?
  intro k
  rw [List.getElem?_set]
  by_cases hk : k < n
  · rw [dn_get hk, dn_get hk]
    by_cases h : j = k
    · subst h
      rw [if_pos rfl, if_pos (by simpa [dn] using hk)]
      simp [upd]
    · rw [if_neg h]
      have : (k == j) = false := by simp; omega
      simp [upd, this]
  · have e : ∀ D', (dn D' n)[k]? = none := fun D' => List.getElem?_eq_none (by simp [dn]; omega)
    rw [e, e]
    have : (dn D n).length = n := by simp [dn]
    split
    · rw [if_neg (by omega)]
    · rfl
theorem dn_made (n : Nat) : madeCells #[.bool false] n = (dn (fun _ => false) n).toArray := by
  apply Array.toList_inj.1
  rw [toList_madeCells_one]
  apply List.ext_getElem?
  intro j
  rcases Nat.lt_or_ge j n with h | h
  · simp [dn, h]
  · rw [List.getElem?_eq_none (by simpa using h), List.getElem?_eq_none (by simpa [dn] using h)]
theorem news_here (w : World) (x : Value) (t : TypeId) {b : Nat} (hb : w.heap.size = b) : ∀ j u, [x][j]? = some u → (w.alloc (.cells #[x] t)).cell? ⟨b, j, none⟩ = some u := by
  subst hb; exact news_new w x t
set_option maxRecDepth 100000 in
set_option maxHeartbeats 2000000 in
theorem match05 (p : Int) (A B : Option Addr) (n c d : Nat) (us vs : List Wk) (w : World) (hu : RdW w w.heap.size A us) (hv : RdW w w.heap.size B vs) (hl : us.length = n) (hl' : vs.length = n)
    (hn : n ≤ 400) (hr : ∀ x ∈ us, 0 ≤ x.at_ ∧ x.at_ ≤ 22) (hM : mat us (fun _ => false) vs = true) :
    Calls Try.prog 46 #[.agg #[.int .i64 p, .slice A n c], .agg #[.int .i64 p, .slice B n d]] w fun e w' => ∃ C k cc, e = .returned (.tuple #[.slice C k cc, .bool true]) ∧ Below w.heap.size w w' := by
  have HU := Lib.hid hu; clear hu
  have HV := Lib.hid hv; clear hv
  have HL := Lib.hid hl; clear hl
  have HL' := Lib.hid hl'; clear hl'
  have HR := Lib.hid hr; clear hr
  have K0 : Has ((w.alloc (.cells #[.int .i64 p, .slice A n c] 24)).alloc (.cells #[.int .i64 p, .slice B n d] 24)) w.heap.size 24 [.int .i64 p, .slice A n c] := (Has.new rfl).alloc _
  have K1 : Has ((w.alloc (.cells #[.int .i64 p, .slice A n c] 24)).alloc (.cells #[.int .i64 p, .slice B n d] 24)) (w.heap.size + 1) 24 [.int .i64 p, .slice B n d] := by
    have := Has.new (w := w.alloc (.cells #[.int .i64 p, .slice A n c] 24)) (arr := #[.int .i64 p, .slice B n d]) (t := 24) (cs := [.int .i64 p, .slice B n d]) rfl
    simpa using this
  have K2 : Has (((w.alloc (.cells #[.int .i64 p, .slice A n c] 24)).alloc (.cells #[.int .i64 p, .slice B n d] 24)).alloc (.cells (madeCells #[.bool false] n) 4)) (w.heap.size + 2) 4 (dn (fun _ => false) n) := by
    have := Has.new (w := (w.alloc (.cells #[.int .i64 p, .slice A n c] 24)).alloc (.cells #[.int .i64 p, .slice B n d] 24)) (arr := madeCells #[.bool false] n) (t := 4) (cs := dn (fun _ => false) n) (dn_made n)
    simpa using this
  have hmk := mkBs05 n (by omega)
  go_enter Try.func46, Try.ntmps46
  go_wp2
  clear hmk
  have HM := Lib.hid hM; clear hM
  have HK0 := Lib.hid (K0.alloc (.cells (madeCells #[.bool false] n) 4)); clear K0
  have HK1 := Lib.hid (K1.alloc (.cells (madeCells #[.bool false] n) 4)); clear K1
  have HK2 := Lib.hid K2; clear K2
  go_loopw [7, 8] (fun v k wr => ∃ (y : Nat) (D : Nat → Bool) (L : List Int) (A' : Option Addr) (c' : Nat), y ≤ n ∧ k = .int .i64 (y : Int) ∧ v = .slice A' L.length c' ∧ L.length = y ∧ wr.ownsRow (w.heap.size + 3) 3 1 v L.length (L.map vInt) ∧
      mat us D (vs.drop y) = true ∧ Has wr (w.heap.size + 2) 4 (dn D n) ∧ Has wr w.heap.size 24 [.int .i64 p, .slice A n c] ∧ Has wr (w.heap.size + 1) 24 [.int .i64 p, .slice B n d] ∧ Below w.heap.size w wr)
    (fun _ k _ => n - (intOf k).toNat)
  case atStart => exact ⟨0, fun _ => false, [], none, 0, Nat.zero_le _, rfl, rfl, rfl, World.ownsRow_nil _ _ _ _, by simpa using HM.out, HK2.out, HK0.out, HK1.out, by go_grown⟩
  case round =>
    obtain ⟨y, D, L, A', c', hy, rfl, rfl, hL, hown, hm, hK2, hK0, hK1, hW⟩ := hrel
    obtain ⟨wo, rfl⟩ : ∃ wo : World, wo = wr := ⟨_, rfl⟩
    have HO := Lib.hid hown; clear hown
    have HMy := Lib.hid hm; clear hm
    have H2 := Lib.hid hK2
    have H0 := Lib.hid hK0
    have H1 := Lib.hid hK1
    have a1 : wo.cell? ⟨w.heap.size, 1, none⟩ = some (.slice A n c) := hK0.cell 1
    have b1 : wo.cell? ⟨w.heap.size + 1, 1, none⟩ = some (.slice B n d) := hK1.cell 1
    clear hK0 hK1 hK2
    by_cases hlt : y < n
    · obtain ⟨x, hx⟩ := get_of_lt (l := vs) (k := y) (by rw [HL'.out]; exact hlt)
      obtain ⟨j, hj, hjx, hjr, hjf, hjm⟩ := mat_step HMy.out hx
      have hjn : j < n := by rw [HL.out] at hj; exact hj
      have HX := Lib.hid hx; clear hx
      have HJ := Lib.hid hjx; clear hjx
      have HJR := Lib.hid hjr; clear hjr
      have HJF := Lib.hid hjf; clear hjf
      have HJM := Lib.hid hjm; clear hjm hj
      obtain ⟨bv, ov, rfl, hbv, x1, x2, x3⟩ := HV.out _ x HX.out
      go_wp2
      go_loopw [9, 10] (fun t q wr => ∃ (i : Nat) (tt : Int), q = .int .i64 (i : Int) ∧ t = .int .i64 tt ∧ (i ≤ j ∧ tt = -1 ∨ i = j + 1 ∧ tt = j) ∧ Below wo.heap.size wo wr) (fun _ q _ => n - (intOf q).toNat)
      case atStart => exact ⟨0, -1, rfl, rfl, .inl ⟨Nat.zero_le _, rfl⟩, Below.refl _ _⟩
      case round =>
        obtain ⟨i, tt, rfl, rfl, hit, hb⟩ := hrel
        obtain ⟨wi, rfl⟩ : ∃ wi : World, wi = wr := ⟨_, rfl⟩
        have hbw : Below w.heap.size w wi := bvia hW hb
        have g0 := H0.out.below hb H0.out.lt
        have g1 := H1.out.below hb H1.out.lt
        have g2 := H2.out.below hb H2.out.lt
        have a0' : wi.cell? ⟨w.heap.size, 0, none⟩ = some (.int .i64 p) := g0.cell 0
        have a1' : wi.cell? ⟨w.heap.size, 1, none⟩ = some (.slice A n c) := g0.cell 1
        have b1' : wi.cell? ⟨w.heap.size + 1, 1, none⟩ = some (.slice (some ⟨bv, ov, none⟩) n d) := g1.cell 1
        rcases hit with ⟨hij, rfl⟩ | ⟨rfl, rfl⟩
        · obtain ⟨u, hu⟩ := get_of_lt (l := us) (k := i) (by rw [HL.out]; omega)
          obtain ⟨bu, ou, rfl, hbu, y1, y2, y3⟩ := HU.out _ u hu
          have k1 : wi.cell? ⟨bu, ou + i * 3, none⟩ = some (.int .i64 u.kind) := by rw [hbw.cell hbu]; exact y1
          have k2 : wi.cell? ⟨bu, ou + i * 3 + 1, none⟩ = some (.int .i64 u.at_) := by rw [hbw.cell hbu]; exact y2
          have k3 : wi.cell? ⟨bu, ou + i * 3 + 2, none⟩ = some (.string u.word) := by rw [hbw.cell hbu]; exact y3
          have k4 : wi.cell? ⟨bv, ov + y * 3, none⟩ = some (.int .i64 x.kind) := by rw [hbw.cell hbv]; exact x1
          have k5 : wi.cell? ⟨bv, ov + y * 3 + 1, none⟩ = some (.int .i64 x.at_) := by rw [hbw.cell hbv]; exact x2
          have k6 : wi.cell? ⟨bv, ov + y * 3 + 2, none⟩ = some (.string x.word) := by rw [hbw.cell hbv]; exact x3
          have hi : i < n := by omega
          have q1 : w.heap.size < wi.heap.size := g0.lt
          have q2 : w.heap.size + 1 < wi.heap.size := g1.lt
          have q3 : bu < wi.heap.size := by have := hbw.size; omega
          have q4 : bv < wi.heap.size := by have := hbw.size; omega
          have C := Lib.hid (fun (W : World) (hb' : Below wi.heap.size wi W) => ready05 p (some ⟨bu, ou, none⟩) n c (w.heap.size + 2) n i D us W (HU.out.up (bvia hbw hb')) HL.out (g2.below hb' g2.lt).lt (fun k hk => ((g2.below hb' g2.lt).cell k).trans (dn_get hk)) hi hn HR.out)
          clear g0 g1 g2 y1 y2 y3
          cases hux : u == x with
          | false =>
            have hne : i < j := by
              refine Nat.lt_of_le_of_ne hij fun e => ?_
              subst e
              rw [HJ.out] at hu; injection hu with hu
              subst hu
              simp at hux
            clear hu
            go_wp2
            have hxc := fun (x : Ext wi) => x.cell
            refine wp_region_ext (by kernel_rfl) (by kernel_rfl) ?_
            repeat (go_big_quiet_step (fail))
            refine wpQuiet_nil ?_
            intro _ hw'
            obtain ⟨⟨w2, hb2⟩, rfl⟩ := hw'
            clear hxc
            go_wp2
            go_roundw
            case rel => exact ⟨i + 1, -1, by go_num, rfl, .inl ⟨by omega, rfl⟩, bvia hb hb2⟩
            case measure => first | (simp [intOf]; done) | (simp [intOf]; omega)
          | true =>
            have HUX := Lib.hid hux; clear hux
            have hr' : rdy us D i = decide (i = j) := by
              have e : u = x := by simpa using HUX.out
              subst e
              rcases Nat.lt_or_ge i j with h | h
              · rw [HJF.out i h hu]; simp; omega
              · obtain rfl : i = j := by omega
                rw [HJR.out]; simp
            rw [hr'] at C
            obtain rfl : u = x := by simpa using HUX.out
            have hbb : (u == u) = true := by simp
            by_cases hlt2 : i = j
            · subst hlt2
              simp only [decide_true] at C
              clear hu hr'
              go_wp2
              have hxc := fun (x : Ext wi) => x.cell
              refine wp_region_ext (by kernel_rfl) (by kernel_rfl) ?_
              repeat (go_big_quiet_step ((go_at_call 68; exact ext_call (C.out _ (Ext.below _)))))
              refine wpQuiet_nil ?_
              intro _ hw'
              obtain ⟨⟨w2, hb2⟩, rfl⟩ := hw'
              clear hxc
              go_wp2
              go_roundw
              case rel => exact ⟨i + 1, (i : Int), by go_num, rfl, .inr ⟨rfl, rfl⟩, bvia hb hb2⟩
              case measure => first | (simp [intOf]; done) | (simp [intOf]; omega)
            · rw [decide_eq_false hlt2] at C
              clear hu hr'
              go_wp2
              have hxc := fun (x : Ext wi) => x.cell
              refine wp_region_ext (by kernel_rfl) (by kernel_rfl) ?_
              repeat (go_big_quiet_step ((go_at_call 68; exact ext_call (C.out _ (Ext.below _)))))
              refine wpQuiet_nil ?_
              intro _ hw'
              obtain ⟨⟨w2, hb2⟩, rfl⟩ := hw'
              clear hxc
              go_wp2
              go_roundw
              case rel => exact ⟨i + 1, -1, by go_num, rfl, .inl ⟨by omega, rfl⟩, bvia hb hb2⟩
              case measure => first | (simp [intOf]; done) | (simp [intOf]; omega)
        · have j0 : wi.cell? ⟨w.heap.size + 2, j, none⟩ = some (.bool (D j)) := (g2.cell j).trans (dn_get hjn)
          have jf : wi.frozen? ⟨w.heap.size + 2, j, none⟩ = false := g2.free j
          have q0 : w.heap.size + 2 < wi.heap.size := g2.lt
          have HOB := Lib.hid (own_below HO.out hb)
          by_cases hj2 : j + 1 < n
          · go_wp2_with (at_builtin; refine wpList_app rfl (.tmp 70) (.tmp 72) _ rfl (w.heap.size + 3) 3 (.int .i64 0) 1 8 Try.underlying29 infoInt rfl (by omega) (by omega) _ _ _ rfl ((ownsRow_setCell_below HOB.out (a := ⟨w.heap.size + 2, j, none⟩) (by simp) _).alloc _) wi.heap.size [vInt j] rfl rfl (news_here _ _ _ (by simp)) (one_int _ _) (by omega) (by simp; omega) ?_; intro ga cap1 w2 hg1 hown1 hgrow1 hor1)
            go_roundw
            case rel =>
              have far : ∀ b', b' < w.heap.size + 3 → some b' ≠ (Value.slice A' L.length c').ownBlock := fun b' hb' e => by have := (HOB.out.lt _ e.symm).1; omega
              have s2 := (((g2.set j (.bool true)).alloc (.cells #[.int .i64 (j : Int)] 3)).same (hgrow1.block _ (by simp; omega) (far _ (by omega))))
              have s0 := (((g0.far (b := w.heap.size + 2) (by omega) j (.bool true)).alloc (.cells #[.int .i64 (j : Int)] 3)).same (hgrow1.block _ (by simp; omega) (far _ (by omega))))
              have s1 := (((g1.far (b := w.heap.size + 2) (by omega) j (.bool true)).alloc (.cells #[.int .i64 (j : Int)] 3)).same (hgrow1.block _ (by simp; omega) (far _ (by omega))))
              rw [dn_set] at s2
              refine ⟨y + 1, upd D j, L ++ [(j : Int)], some ⟨ga, 0, none⟩, cap1, by omega, by go_num, by simp [hL], by simp [hL], by simpa [hL] using hown1, HJM.out, s2, s0, s1, ?_⟩
              exact ((hbw.setCell (by simp; omega) _).alloc (by simp; omega) _).grown hgrow1 (by simp; omega) (fun k hk => by have := (HOB.out.lt k hk).1; omega)
            case measure => first | (simp [intOf]; done) | (simp [intOf]; omega)
          · go_wp2_with (at_builtin; refine wpList_app rfl (.tmp 70) (.tmp 72) _ rfl (w.heap.size + 3) 3 (.int .i64 0) 1 8 Try.underlying29 infoInt rfl (by omega) (by omega) _ _ _ rfl ((ownsRow_setCell_below HOB.out (a := ⟨w.heap.size + 2, j, none⟩) (by simp) _).alloc _) wi.heap.size [vInt j] rfl rfl (news_here _ _ _ (by simp)) (one_int _ _) (by omega) (by simp; omega) ?_; intro ga cap1 w2 hg1 hown1 hgrow1 hor1)
            go_roundw
            case rel =>
              have far : ∀ b', b' < w.heap.size + 3 → some b' ≠ (Value.slice A' L.length c').ownBlock := fun b' hb' e => by have := (HOB.out.lt _ e.symm).1; omega
              have s2 := (((g2.set j (.bool true)).alloc (.cells #[.int .i64 (j : Int)] 3)).same (hgrow1.block _ (by simp; omega) (far _ (by omega))))
              have s0 := (((g0.far (b := w.heap.size + 2) (by omega) j (.bool true)).alloc (.cells #[.int .i64 (j : Int)] 3)).same (hgrow1.block _ (by simp; omega) (far _ (by omega))))
              have s1 := (((g1.far (b := w.heap.size + 2) (by omega) j (.bool true)).alloc (.cells #[.int .i64 (j : Int)] 3)).same (hgrow1.block _ (by simp; omega) (far _ (by omega))))
              rw [dn_set] at s2
              refine ⟨y + 1, upd D j, L ++ [(j : Int)], some ⟨ga, 0, none⟩, cap1, by omega, by go_num, by simp [hL], by simp [hL], by simpa [hL] using hown1, HJM.out, s2, s0, s1, ?_⟩
              exact ((hbw.setCell (by simp; omega) _).alloc (by simp; omega) _).grown hgrow1 (by simp; omega) (fun k hk => by have := (HOB.out.lt k hk).1; omega)
            case measure => first | (simp [intOf]; done) | (simp [intOf]; omega)
    · obtain rfl : y = n := by omega
      go_wp2
      go_ret2
      exact ⟨_, _, _, rfl, hW⟩
end Go.Proofs.Ytnjenggijmbhcaa
