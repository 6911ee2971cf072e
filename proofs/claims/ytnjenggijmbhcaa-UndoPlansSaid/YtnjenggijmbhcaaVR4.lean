/-
  Contract of torchonref05.match where an order is found, and of Same over it.
-/
import Derived.Test.YtnjenggijmbhcaaVK10
import Derived.Test.YtnjenggijmbhcaaVK2
import Derived.Test.YtnjenggijmbhcaaVR3
import Derived.Laws.MakeOwn
namespace Go.Proofs.Ytnjenggijmbhcaa
open Go.RowKit
attribute [local go_sem 10000] eql_wk
theorem infoBool05 : (Try.prog.info? 4).map (fun i => (i.zero, i.size, i.bytes)) = some (some (.bool false), 1, 1) := by kernel_rfl
theorem mkBs05 (n : Nat) (hn : n ≤ 1000) (W : World) : (Instr.makeSlice 50 (.int .i64 (n : Int)) (.int .i64 (n : Int))).run Try.prog W = .ok (.slice (some ⟨W.heap.size, 0, none⟩) n n) (W.alloc (.cells (madeCells #[.bool false] n) 4)) := by
  obtain ⟨i, hi, hz, hs, hb⟩ := info_parts infoBool05
  have h := run_make (P := Try.prog) W 50 4 i (.bool false) Try.underlying50 hi hz .i64 .i64 (n : Int) (n : Int) (by omega) (Int.le_refl _) (by rw [hb]; omega) (by omega)
  rw [Int.toNat_natCast, hs, Nat.mul_one] at h
  simpa [Value.cells] using h
/-- the cells of the list of what is done -/
def dn (D : Nat → Bool) (n : Nat) : List Value := (List.range n).map fun k => .bool (D k)
theorem dn_get {D : Nat → Bool} {n k : Nat} (h : k < n) : (dn D n)[k]? = some (.bool (D k)) := by simp [dn, h]
theorem dn_set (D : Nat → Bool) (n j : Nat) : (dn D n).set j (.bool true) = dn (upd D j) n := by
  apply List.ext_getElem?
  intro k
  rw [List.getElem?_set]
  by_cases hk : k < n
  · rw [dn_get hk, dn_get hk]
    by_cases h : j = k
    · subst h
      rw [if_pos rfl, if_pos (by simpa [dn] using hk)]
      simp [upd]
    · rw [if_neg h]
      have : (k == j) = false := by simp; omega
      simp [upd, this]
  · have e : ∀ D', (dn D' n)[k]? = none := fun D' => List.getElem?_eq_none (by simp [dn]; omega)
    rw [e, e]
    have : (dn D n).length = n := by simp [dn]
    split
    · rw [if_neg (by omega)]
    · rfl
theorem dn_made (n : Nat) : madeCells #[.bool false] n = (dn (fun _ => false) n).toArray := by
  apply Array.toList_inj.1
  rw [toList_madeCells_one]
  apply List.ext_getElem?
  intro j
  rcases Nat.lt_or_ge j n with h | h
  · simp [dn, h]
  · rw [List.getElem?_eq_none (by simpa using h), List.getElem?_eq_none (by simpa [dn] using h)]
theorem news_here (w : World) (x : Value) (t : TypeId) {b : Nat} (hb : w.heap.size = b) : ∀ j u, [x][j]? = some u → (w.alloc (.cells #[x] t)).cell? ⟨b, j, none⟩ = some u := by
  subst hb; exact news_new w x t
set_option maxRecDepth 100000 in
set_option maxHeartbeats 2000000 in
theorem match05 (p : Int) (A B : Option Addr) (n c d : Nat) (us vs : List Wk) (w : World) (hu : RdW w w.heap.size A us) (hv : RdW w w.heap.size B vs) (hl : us.length = n) (hl' : vs.length = n)
    (hn : n ≤ 400) (hr : ∀ x ∈ us, 0 ≤ x.at_ ∧ x.at_ ≤ 22) (hM : mat us (fun _ => false) vs = true) :
    Calls Try.prog 46 #[.agg #[.int .i64 p, .slice A n c], .agg #[.int .i64 p, .slice B n d]] w fun e w' => ∃ C k cc, e = .returned (.tuple #[.slice C k cc, .bool true]) ∧ Below w.heap.size w w' := by
  have HU := Lib.hid hu; clear hu
  have HV := Lib.hid hv; clear hv
  have HL := Lib.hid hl; clear hl
  have HL' := Lib.hid hl'; clear hl'
  have HR := Lib.hid hr; clear hr
  have K0 : Has ((w.alloc (.cells #[.int .i64 p, .slice A n c] 24)).alloc (.cells #[.int .i64 p, .slice B n d] 24)) w.heap.size 24 [.int .i64 p, .slice A n c] := (Has.new rfl).alloc _
  have K1 : Has ((w.alloc (.cells #[.int .i64 p, .slice A n c] 24)).alloc (.cells #[.int .i64 p, .slice B n d] 24)) (w.heap.size + 1) 24 [.int .i64 p, .slice B n d] := by
    have := Has.new (w := w.alloc (.cells #[.int .i64 p, .slice A n c] 24)) (arr := #[.int .i64 p, .slice B n d]) (t := 24) (cs := [.int .i64 p, .slice B n d]) rfl
    simpa using this
  have K2 : Has (((w.alloc (.cells #[.int .i64 p, .slice A n c] 24)).alloc (.cells #[.int .i64 p, .slice B n d] 24)).alloc (.cells (madeCells #[.bool false] n) 4)) (w.heap.size + 2) 4 (dn (fun _ => false) n) := by
    have := Has.new (w := (w.alloc (.cells #[.int .i64 p, .slice A n c] 24)).alloc (.cells #[.int .i64 p, .slice B n d] 24)) (arr := madeCells #[.bool false] n) (t := 4) (cs := dn (fun _ => false) n) (dn_made n)
    simpa using this
  have hmk := mkBs05 n (by omega)
  go_enter Try.func46, Try.ntmps46
  go_wp2
  clear hmk
  have HM := Lib.hid hM; clear hM
  have HK0 := Lib.hid (K0.alloc (.cells (madeCells #[.bool false] n) 4)); clear K0
  have HK1 := Lib.hid (K1.alloc (.cells (madeCells #[.bool false] n) 4)); clear K1
  have HK2 := Lib.hid K2; clear K2
  go_loopw [7, 8] (fun v k wr => ∃ (y : Nat) (D : Nat → Bool) (L : List Int) (A' : Option Addr) (c' : Nat), y ≤ n ∧ k = .int .i64 (y : Int) ∧ v = .slice A' L.length c' ∧ L.length = y ∧ wr.ownsRow (w.heap.size + 3) 3 1 v L.length (L.map vInt) ∧
      mat us D (vs.drop y) = true ∧ Has wr (w.heap.size + 2) 4 (dn D n) ∧ Has wr w.heap.size 24 [.int .i64 p, .slice A n c] ∧ Has wr (w.heap.size + 1) 24 [.int .i64 p, .slice B n d] ∧ Below w.heap.size w wr)
    (fun _ k _ => n - (intOf k).toNat)
  case atStart => exact ⟨0, fun _ => false, [], none, 0, Nat.zero_le _, rfl, rfl, rfl, World.ownsRow_nil _ _ _ _, by simpa using HM.out, HK2.out, HK0.out, HK1.out, by go_grown⟩
  case round =>
    obtain ⟨y, D, L, A', c', hy, rfl, rfl, hL, hown, hm, hK2, hK0, hK1, hW⟩ := hrel
    obtain ⟨wo, rfl⟩ : ∃ wo : World, wo = wr := ⟨_, rfl⟩
    have HO := Lib.hid hown; clear hown
    have HMy := Lib.hid hm; clear hm
    have H2 := Lib.hid hK2
    have H0 := Lib.hid hK0
    have H1 := Lib.hid hK1
    have a1 : wo.cell? ⟨w.heap.size, 1, none⟩ = some (.slice A n c) := hK0.cell 1
    have b1 : wo.cell? ⟨w.heap.size + 1, 1, none⟩ = some (.slice B n d) := hK1.cell 1
    clear hK0 hK1 hK2
    by_cases hlt : y < n
    · obtain ⟨x, hx⟩ := get_of_lt (l := vs) (k := y) (by rw [HL'.out]; exact hlt)
      obtain ⟨j, hj, hjx, hjr, hjf, hjm⟩ := mat_step HMy.out hx
      have hjn : j < n := by rw [HL.out] at hj; exact hj
      have HX := Lib.hid hx; clear hx
      have HJ := Lib.hid hjx; clear hjx
      have HJR := Lib.hid hjr; clear hjr
      have HJF := Lib.hid hjf; clear hjf
      have HJM := Lib.hid hjm; clear hjm hj
      obtain ⟨bv, ov, rfl, hbv, x1, x2, x3⟩ := HV.out _ x HX.out
      go_wp2
      go_loopw [9, 10] (fun t q wr => ∃ (i : Nat) (tt : Int), q = .int .i64 (i : Int) ∧ t = .int .i64 tt ∧ (i ≤ j ∧ tt = -1 ∨ i = j + 1 ∧ tt = j) ∧ Below wo.heap.size wo wr) (fun _ q _ => n - (intOf q).toNat)
      case atStart => exact ⟨0, -1, rfl, rfl, .inl ⟨Nat.zero_le _, rfl⟩, Below.refl _ _⟩
      case round =>
        obtain ⟨i, tt, rfl, rfl, hit, hb⟩ := hrel
        obtain ⟨wi, rfl⟩ : ∃ wi : World, wi = wr := ⟨_, rfl⟩
        have hbw : Below w.heap.size w wi := bvia hW hb
        have g0 := H0.out.below hb H0.out.lt
        have g1 := H1.out.below hb H1.out.lt
        have g2 := H2.out.below hb H2.out.lt
        have a0' : wi.cell? ⟨w.heap.size, 0, none⟩ = some (.int .i64 p) := g0.cell 0
        have a1' : wi.cell? ⟨w.heap.size, 1, none⟩ = some (.slice A n c) := g0.cell 1
        have b1' : wi.cell? ⟨w.heap.size + 1, 1, none⟩ = some (.slice (some ⟨bv, ov, none⟩) n d) := g1.cell 1
        rcases hit with ⟨hij, rfl⟩ | ⟨rfl, rfl⟩
        · obtain ⟨u, hu⟩ := get_of_lt (l := us) (k := i) (by rw [HL.out]; omega)
          obtain ⟨bu, ou, rfl, hbu, y1, y2, y3⟩ := HU.out _ u hu
          have k1 : wi.cell? ⟨bu, ou + i * 3, none⟩ = some (.int .i64 u.kind) := by rw [hbw.cell hbu]; exact y1
          have k2 : wi.cell? ⟨bu, ou + i * 3 + 1, none⟩ = some (.int .i64 u.at_) := by rw [hbw.cell hbu]; exact y2
          have k3 : wi.cell? ⟨bu, ou + i * 3 + 2, none⟩ = some (.string u.word) := by rw [hbw.cell hbu]; exact y3
          have k4 : wi.cell? ⟨bv, ov + y * 3, none⟩ = some (.int .i64 x.kind) := by rw [hbw.cell hbv]; exact x1
          have k5 : wi.cell? ⟨bv, ov + y * 3 + 1, none⟩ = some (.int .i64 x.at_) := by rw [hbw.cell hbv]; exact x2
          have k6 : wi.cell? ⟨bv, ov + y * 3 + 2, none⟩ = some (.string x.word) := by rw [hbw.cell hbv]; exact x3
          have hi : i < n := by omega
          have q1 : w.heap.size < wi.heap.size := g0.lt
          have q2 : w.heap.size + 1 < wi.heap.size := g1.lt
          have q3 : bu < wi.heap.size := by have := hbw.size; omega
          have q4 : bv < wi.heap.size := by have := hbw.size; omega
          have C := Lib.hid (fun (W : World) (hb' : Below wi.heap.size wi W) => ready05 p (some ⟨bu, ou, none⟩) n c (w.heap.size + 2) n i D us W (HU.out.up (bvia hbw hb')) HL.out (g2.below hb' g2.lt).lt (fun k hk => ((g2.below hb' g2.lt).cell k).trans (dn_get hk)) hi hn HR.out)
          clear g0 g1 g2 y1 y2 y3
          cases hux : u == x with
          | false =>
            have hne : i < j := by
              refine Nat.lt_of_le_of_ne hij fun e => ?_
              subst e
              rw [HJ.out] at hu; injection hu with hu
              subst hu
              simp at hux
            clear hu
            go_wp2
            have hxc := fun (x : Ext wi) => x.cell
            refine wp_region_ext (by kernel_rfl) (by kernel_rfl) ?_
            repeat (go_big_quiet_step (fail))
            refine wpQuiet_nil ?_
            intro _ hw'
            obtain ⟨⟨w2, hb2⟩, rfl⟩ := hw'
            clear hxc
            go_wp2
            go_roundw
            case rel => exact ⟨i + 1, -1, by go_num, rfl, .inl ⟨by omega, rfl⟩, bvia hb hb2⟩
            case measure => first | (simp [intOf]; done) | (simp [intOf]; omega)
          | true =>
            have HUX := Lib.hid hux; clear hux
            have hr' : rdy us D i = decide (i = j) := by
              have e : u = x := by simpa using HUX.out
              subst e
              rcases Nat.lt_or_ge i j with h | h
              · rw [HJF.out i h hu]; simp; omega
              · obtain rfl : i = j := by omega
                rw [HJR.out]; simp
            rw [hr'] at C
            obtain rfl : u = x := by simpa using HUX.out
            have hbb : (u == u) = true := by simp
            by_cases hlt2 : i = j
            · subst hlt2
              simp only [decide_true] at C
              clear hu hr'
              go_wp2
              have hxc := fun (x : Ext wi) => x.cell
              refine wp_region_ext (by kernel_rfl) (by kernel_rfl) ?_
              repeat (go_big_quiet_step ((go_at_call 68; exact ext_call (C.out _ (Ext.below _)))))
              refine wpQuiet_nil ?_
              intro _ hw'
              obtain ⟨⟨w2, hb2⟩, rfl⟩ := hw'
              clear hxc
              go_wp2
              go_roundw
              case rel => exact ⟨i + 1, (i : Int), by go_num, rfl, .inr ⟨rfl, rfl⟩, bvia hb hb2⟩
              case measure => first | (simp [intOf]; done) | (simp [intOf]; omega)
            · rw [decide_eq_false hlt2] at C
              clear hu hr'
              go_wp2
              have hxc := fun (x : Ext wi) => x.cell
              refine wp_region_ext (by kernel_rfl) (by kernel_rfl) ?_
              repeat (go_big_quiet_step ((go_at_call 68; exact ext_call (C.out _ (Ext.below _)))))
              refine wpQuiet_nil ?_
              intro _ hw'
              obtain ⟨⟨w2, hb2⟩, rfl⟩ := hw'
              clear hxc
              go_wp2
              go_roundw
              case rel => exact ⟨i + 1, -1, by go_num, rfl, .inl ⟨by omega, rfl⟩, bvia hb hb2⟩
              case measure => first | (simp [intOf]; done) | (simp [intOf]; omega)
        · have j0 : wi.cell? ⟨w.heap.size + 2, j, none⟩ = some (.bool (D j)) := (g2.cell j).trans (dn_get hjn)
          have jf : wi.frozen? ⟨w.heap.size + 2, j, none⟩ = false := g2.free j
          have q0 : w.heap.size + 2 < wi.heap.size := g2.lt
          have HOB := Lib.hid (own_below HO.out hb)
          by_cases hj2 : j + 1 < n
          · go_wp2_with (at_builtin; refine wpList_app rfl (.tmp 70) (.tmp 72) _ rfl (w.heap.size + 3) 3 (.int .i64 0) 1 8 Try.underlying29 infoInt rfl (by omega) (by omega) _ _ _ rfl ((ownsRow_setCell_below HOB.out (a := ⟨w.heap.size + 2, j, none⟩) (by simp) _).alloc _) wi.heap.size [vInt j] rfl rfl (news_here _ _ _ (by simp)) (one_int _ _) (by omega) (by simp; omega) ?_; intro ga cap1 w2 hg1 hown1 hgrow1 hor1)
            go_roundw
            case rel =>
              have far : ∀ b', b' < w.heap.size + 3 → some b' ≠ (Value.slice A' L.length c').ownBlock := fun b' hb' e => by have := (HOB.out.lt _ e.symm).1; omega
              have s2 := (((g2.set j (.bool true)).alloc (.cells #[.int .i64 (j : Int)] 3)).same (hgrow1.block _ (by simp; omega) (far _ (by omega))))
              have s0 := (((g0.far (b := w.heap.size + 2) (by omega) j (.bool true)).alloc (.cells #[.int .i64 (j : Int)] 3)).same (hgrow1.block _ (by simp; omega) (far _ (by omega))))
              have s1 := (((g1.far (b := w.heap.size + 2) (by omega) j (.bool true)).alloc (.cells #[.int .i64 (j : Int)] 3)).same (hgrow1.block _ (by simp; omega) (far _ (by omega))))
              rw [dn_set] at s2
              refine ⟨y + 1, upd D j, L ++ [(j : Int)], some ⟨ga, 0, none⟩, cap1, by omega, by go_num, by simp [hL], by simp [hL], by simpa [hL] using hown1, HJM.out, s2, s0, s1, ?_⟩
              exact ((hbw.setCell (by simp; omega) _).alloc (by simp; omega) _).grown hgrow1 (by simp; omega) (fun k hk => by have := (HOB.out.lt k hk).1; omega)
            case measure => first | (simp [intOf]; done) | (simp [intOf]; omega)
          · go_wp2_with (at_builtin; refine wpList_app rfl (.tmp 70) (.tmp 72) _ rfl (w.heap.size + 3) 3 (.int .i64 0) 1 8 Try.underlying29 infoInt rfl (by omega) (by omega) _ _ _ rfl ((ownsRow_setCell_below HOB.out (a := ⟨w.heap.size + 2, j, none⟩) (by simp) _).alloc _) wi.heap.size [vInt j] rfl rfl (news_here _ _ _ (by simp)) (one_int _ _) (by omega) (by simp; omega) ?_; intro ga cap1 w2 hg1 hown1 hgrow1 hor1)
            go_roundw
            case rel =>
              have far : ∀ b', b' < w.heap.size + 3 → some b' ≠ (Value.slice A' L.length c').ownBlock := fun b' hb' e => by have := (HOB.out.lt _ e.symm).1; omega
              have s2 := (((g2.set j (.bool true)).alloc (.cells #[.int .i64 (j : Int)] 3)).same (hgrow1.block _ (by simp; omega) (far _ (by omega))))
              have s0 := (((g0.far (b := w.heap.size + 2) (by omega) j (.bool true)).alloc (.cells #[.int .i64 (j : Int)] 3)).same (hgrow1.block _ (by simp; omega) (far _ (by omega))))
              have s1 := (((g1.far (b := w.heap.size + 2) (by omega) j (.bool true)).alloc (.cells #[.int .i64 (j : Int)] 3)).same (hgrow1.block _ (by simp; omega) (far _ (by omega))))
              rw [dn_set] at s2
              refine ⟨y + 1, upd D j, L ++ [(j : Int)], some ⟨ga, 0, none⟩, cap1, by omega, by go_num, by simp [hL], by simp [hL], by simpa [hL] using hown1, HJM.out, s2, s0, s1, ?_⟩
              exact ((hbw.setCell (by simp; omega) _).alloc (by simp; omega) _).grown hgrow1 (by simp; omega) (fun k hk => by have := (HOB.out.lt k hk).1; omega)
            case measure => first | (simp [intOf]; done) | (simp [intOf]; omega)
    · obtain rfl : y = n := by omega
      go_wp2
      go_ret2
      exact ⟨_, _, _, rfl, hW⟩
end Go.Proofs.Ytnjenggijmbhcaa
/-
  Contract of torchonref05.Same for two valid sheets that are the same lace.
-/
namespace Go.Proofs.Ytnjenggijmbhcaa
open Go.RowKit
theorem SOk.small {p : Int} {us : List Wk} (h : SOk p us) : ∀ x ∈ us, x.word.size ≤ 9223372036854775807 := fun x hx => Nat.le_trans (h.short x hx) (by omega)
theorem SOk.range {p : Int} {us : List Wk} (h : SOk p us) : ∀ x ∈ us, 0 ≤ x.at_ ∧ x.at_ ≤ 22 := fun x hx => by
  obtain ⟨_, h1, h2, _⟩ := bad_at (h.good x hx)
  have := h.le
  omega
set_option maxRecDepth 100000 in
theorem same05 (p : Int) (A B : Option Addr) (n m c d : Nat) (us vs : List Wk) (w : World) (hu : RdW w w.heap.size A us) (hv : RdW w w.heap.size B vs) (hl : us.length = n) (hl' : vs.length = m)
    (h1 : SOk p us) (h2 : SOk p vs) (ha : Alike us vs) :
    Calls Try.prog 22 #[.agg #[.int .i64 p, .slice A n c], .agg #[.int .i64 p, .slice B m d]] w fun e w' => e = .returned (.tuple #[.bool true, .int .i64 0]) ∧ Below w.heap.size w w' := by
  have hnm : n = m := by rw [← hl, ← hl']; exact alike_len ha
  subst hnm
  have hn : n ≤ 400 := by rw [← hl]; exact h1.len
  have HU := Lib.hid hu; clear hu
  have HV := Lib.hid hv; clear hv
  have C1 := Lib.hid (fun (W : World) (hb : Below w.heap.size w W) => both05 p p A B n n c d us vs W (by omega) (by omega) (HU.out.up hb) (HV.out.up hb) hl hl' h1.small h2.small h1.zero h2.zero)
  have C2 := Lib.hid (fun (W : World) (hb : Below w.heap.size w W) => match05 p A B n c d us vs W (HU.out.up hb) (HV.out.up hb) hl hl' hn h1.range (mat_alike ha))
  have K0 : Has ((w.alloc (.cells #[.int .i64 p, .slice A n c] 24)).alloc (.cells #[.int .i64 p, .slice B n d] 24)) w.heap.size 24 [.int .i64 p, .slice A n c] := (Has.new rfl).alloc _
  have K1 : Has ((w.alloc (.cells #[.int .i64 p, .slice A n c] 24)).alloc (.cells #[.int .i64 p, .slice B n d] 24)) (w.heap.size + 1) 24 [.int .i64 p, .slice B n d] := by
    have := Has.new (w := w.alloc (.cells #[.int .i64 p, .slice A n c] 24)) (arr := #[.int .i64 p, .slice B n d]) (t := 24) (cs := [.int .i64 p, .slice B n d]) rfl
    simpa using this
  clear h1 h2 ha hl hl'
  go_enter Try.func22, Try.ntmps22
  go_wp2_with fail
  refine (C1.out _ (by go_grown)).mono ?_
  rintro e w1 ⟨rfl, hb1⟩
  have g0 := K0.below hb1 K0.lt
  have g1 := K1.below hb1 K1.lt
  have a0 : w1.cell? ⟨w.heap.size, 0, none⟩ = some (.int .i64 p) := g0.cell 0
  have a1 : w1.cell? ⟨w.heap.size, 1, none⟩ = some (.slice A n c) := g0.cell 1
  have b0 : w1.cell? ⟨w.heap.size + 1, 0, none⟩ = some (.int .i64 p) := g1.cell 0
  have b1 : w1.cell? ⟨w.heap.size + 1, 1, none⟩ = some (.slice B n d) := g1.cell 1
  have hB1 : Below w.heap.size w w1 := bvia (by go_grown) hb1
  clear K0 K1 g0 g1
  go_wp2_with fail
  refine (C2.out _ hB1).mono ?_
  rintro e w2 ⟨C, k, cc, rfl, hb2⟩
  go_wp2
  go_ret2
  exact ⟨rfl, bvia hB1 hb2⟩
end Go.Proofs.Ytnjenggijmbhcaa
/-
  Append of a slice of works to a row of the call's own, in a region whose order is drawn; the law's 'after'.
-/
namespace Go.Proofs.Ytnjenggijmbhcaa
open Go.RowKit
theorem run_app0 {P : Program} (w : World) (t ty e : TypeId) (i : TypeInfo) (ht : P.underlying t = some (.slice e)) (hi : P.info? e = some i) (B : Option Addr) (n d c : Nat) (h : n ≤ d) :
    (Builtin.append_ #[t, t] ty #[.slice B n d, .slice none 0 c]).run P w = .ok (.slice B n d) w := by
  cases B <;> simp [Builtin.append_, run_underlying ht, sizeOf, typeInfo, hi, Builtin.lenOf, Builtin.firstCells, h, storeCells]
theorem rdW_wks {w : World} {B b o : Nat} {ws : List Wk} (h : RdW w B (some ⟨b, o, none⟩) ws) : ∀ j u, (wksCells ws)[j]? = some u → w.cell? ((⟨b, o, none⟩ : Addr).add j) = some u := fun j u hu => by
  have hj := lt_of_get hu
  rw [wksCells_len] at hj
  obtain ⟨x, hx⟩ := get_of_lt (l := ws) (k := j / 3) (by omega)
  obtain ⟨b', o', e, _, c0, c1, c2⟩ := h _ x hx
  injection e with e; injection e with e1 e2
  subst e1 e2
  obtain ⟨g0, g1, g2⟩ := wksCells_get hx
  rw [Addr.add_lit]
  have hm : j = j / 3 * 3 ∨ j = j / 3 * 3 + 1 ∨ j = j / 3 * 3 + 2 := by omega
  rcases hm with e | e | e
  · rw [← e] at g0 c0
    rw [g0] at hu; injection hu with hu
    rw [← hu]; exact c0
  · rw [← e] at g1
    rw [Nat.add_assoc, ← e] at c1
    rw [g1] at hu; injection hu with hu
    rw [← hu]; exact c1
  · rw [← e] at g2
    rw [Nat.add_assoc, ← e] at c2
    rw [g2] at hu; injection hu with hu
    rw [← hu]; exact c2
theorem step_appW {w : World} {ops : Array Oper} {o : Oper} {a : Act} {K : Act → World → Prop} {Q : Exit → Act → World → Prop} {E : Prop} (hgd : o.guard = none) (s x : Operand)
    (ho : o.op = .call { callee := .builtin .append, args := #[s, x], argTypes := #[22, 22] })
    (base : Nat) (v : Value) (n : Nat) (xs : List Wk) (hs : a.eval s = v) (hown : w.ownsRow base 26 3 v n (wksCells xs))
    (A : Option Addr) (m c : Nat) (ws : List Wk) (hx : a.eval x = .slice A m c) (hr : RdW w w.heap.size A ws) (hl : ws.length = m)
    (hn : n + m ≤ 1000000000) (hbase : base ≤ w.heap.size)
    (h : ∀ A' c' w', w'.ownsRow base 26 3 (.slice A' (n + m) c') (n + m) (wksCells (xs ++ ws)) → w.grownBy w' v.ownBlock → K (a.put o.dst (.slice A' (n + m) c')) w') :
    if Region.wanted o (yielded ops a.tmps) = true then o.wp Try.prog a w K Q else E := by
  have happ : wksCells xs ++ wksCells ws = wksCells (xs ++ ws) := by simp [wksCells]
  cases A with
  | none =>
    have hw0 : ws = [] := by
      cases ws with
      | nil => rfl
      | cons y ws => obtain ⟨b, o', e, _⟩ := hr 0 y rfl; cases e
    subst hw0
    obtain rfl : 0 = m := hl
    have hw : Region.wanted o (yielded ops a.tmps) = true := by simp [Region.wanted, hgd]
    rw [if_pos hw]
    obtain ⟨B, d, rfl⟩ := own_form hown
    obtain ⟨i, hi, hz, hsize, hb⟩ := info_parts infoWk
    have hcc := own_caps hown
    have hrun := run_app0 (P := Try.prog) w 22 o.type 26 i Try.underlying22 hi B n d c hcc.1
    unfold Oper.wp execOp
    simp only [ho, resolve, invoke, builtin, Sem.run_bind, Sem.run_pure, Result.andThen_ok, List.map_toArray, List.map_cons, List.map_nil, hs, hx, hrun]
    exact h B d w (by rw [List.append_nil]; exact hown) ⟨rfl, rfl, rfl, Nat.le_refl _, fun _ _ _ => rfl⟩
  | some ad =>
    refine step_appN hgd s x 22 ho base 26 (.agg #[.int .i64 0, .int .i64 0, .string ⟨#[]⟩]) 3 32 Try.underlying22 infoWk rfl (by omega) (by omega) v n (wksCells xs) hs hown ad m c (wksCells ws) hx (by rw [wksCells_len, hl]) ?_ (one_wks ws) hn hbase ?_
    · cases ws with
      | nil => intro j u hu; simp [wksCells] at hu
      | cons y ws =>
        obtain ⟨b, o', e, _⟩ := hr 0 y rfl
        injection e with e
        subst e
        exact rdW_wks hr
    · intro v' w' hown' hgrow' _ _
      obtain ⟨A', c', rfl⟩ := own_form hown'
      exact h A' c' w' (by rw [← happ]; exact hown') hgrow'
/-- an ending: a sheet in memory -/
def RetS (p : Int) (ws : List Wk) (w : World) (e : Ending) (w' : World) : Prop := ∃ A n c, e = .returned (.agg #[.int .i64 p, .slice A n c]) ∧ RdW w' w'.heap.size A ws ∧ ws.length = n ∧ n ≤ c ∧ c ≤ 9223372036854775807 ∧ Below w.heap.size w w'
set_option maxRecDepth 100000 in
set_option maxHeartbeats 1000000 in
theorem after28 (p q : Int) (A B : Option Addr) (n m c d : Nat) (us vs : List Wk) (w : World) (hu : RdW w w.heap.size A us) (hv : RdW w w.heap.size B vs) (hl : us.length = n) (hl' : vs.length = m) (hn : n ≤ 1000) (hm : m ≤ 1000) :
    Calls Try.prog 23 #[.agg #[.int .i64 p, .slice A n c], .agg #[.int .i64 q, .slice B m d]] w (RetS p (us ++ vs) w) := by
  have HU := Lib.hid hu; clear hu
  have HV := Lib.hid hv; clear hv
  have HL := Lib.hid hl; clear hl
  have HL' := Lib.hid hl'; clear hl'
  have K0 : Has (((w.alloc (.cells #[.int .i64 p, .slice A n c] 24)).alloc (.cells #[.int .i64 q, .slice B m d] 24)).alloc (.cells #[.int .i64 0, .slice none 0 0] 24)) w.heap.size 24 [.int .i64 p, .slice A n c] := ((Has.new rfl).alloc _).alloc _
  have K1 : Has (((w.alloc (.cells #[.int .i64 p, .slice A n c] 24)).alloc (.cells #[.int .i64 q, .slice B m d] 24)).alloc (.cells #[.int .i64 0, .slice none 0 0] 24)) (w.heap.size + 1) 24 [.int .i64 q, .slice B m d] := by
    have := (Has.new (w := w.alloc (.cells #[.int .i64 p, .slice A n c] 24)) (arr := #[.int .i64 q, .slice B m d]) (t := 24) (cs := [.int .i64 q, .slice B m d]) rfl).alloc (.cells #[.int .i64 0, .slice none 0 0] 24)
    simpa using this
  have K2 : Has (((w.alloc (.cells #[.int .i64 p, .slice A n c] 24)).alloc (.cells #[.int .i64 q, .slice B m d] 24)).alloc (.cells #[.int .i64 0, .slice none 0 0] 24)) (w.heap.size + 2) 24 [.int .i64 0, .slice none 0 0] := by
    have := Has.new (w := (w.alloc (.cells #[.int .i64 p, .slice A n c] 24)).alloc (.cells #[.int .i64 q, .slice B m d] 24)) (arr := #[.int .i64 0, .slice none 0 0]) (t := 24) (cs := [.int .i64 0, .slice none 0 0]) rfl
    simpa using this
  have B0 : Below w.heap.size w (((w.alloc (.cells #[.int .i64 p, .slice A n c] 24)).alloc (.cells #[.int .i64 q, .slice B m d] 24)).alloc (.cells #[.int .i64 0, .slice none 0 0] 24)) := by go_grown
  have hz0 : (((w.alloc (.cells #[.int .i64 p, .slice A n c] 24)).alloc (.cells #[.int .i64 q, .slice B m d] 24)).alloc (.cells #[.int .i64 0, .slice none 0 0] 24)).heap.size = w.heap.size + 3 := by simp
  go_enter Try.func23, Try.ntmps23
  go_wp2
  generalize (((w.alloc (.cells #[.int .i64 p, .slice A n c] 24)).alloc (.cells #[.int .i64 q, .slice B m d] 24)).alloc (.cells #[.int .i64 0, .slice none 0 0] 24)) = wo at *
  have HK := Lib.hid (show ∀ w', Below (w.heap.size + 3) wo w' → w'.cell? ⟨w.heap.size, 0, none⟩ = some (.int .i64 p) ∧ w'.cell? ⟨w.heap.size, 1, none⟩ = some (.slice A n c) ∧ w'.cell? ⟨w.heap.size + 1, 1, none⟩ = some (.slice B m d) from
    fun w' hb => ⟨(K0.below hb (by omega)).cell 0, (K0.below hb (by omega)).cell 1, (K1.below hb (by omega)).cell 1⟩)
  obtain ⟨r0, r1, r2⟩ := HK.out _ (Below.refl _ _)
  have HK2 := Lib.hid (fun w' (hb : Below (w.heap.size + 3) wo w') => K2.below hb (by omega))
  have z0 : w.heap.size < wo.heap.size := by omega
  have z1 : w.heap.size + 1 < wo.heap.size := by omega
  have z2 : w.heap.size + 2 < wo.heap.size := by omega
  have z3 : w.heap.size + 3 ≤ wo.heap.size := by omega
  obtain ⟨sq, hsq⟩ : ∃ sq, sq = w.heap.size + 1 + 1 := ⟨_, rfl⟩
  rw [← hsq]
  have hq0 : w.heap.size ≠ sq := by omega
  have hq1 : w.heap.size + 1 ≠ sq := by omega
  have hq0' : sq ≠ w.heap.size := by omega
  have hq1' : sq ≠ w.heap.size + 1 := by omega
  have hq2 : w.heap.size ≤ sq := by omega
  have hsq2 : w.heap.size + 2 = sq := by omega
  rw [hsq2] at HK2 z2
  clear K0 K1 K2 hz0 hsq
  have HQ := Lib.hid hsq2; clear hsq2
  go_region_held3 (fun w' => w'.cell? ⟨w.heap.size, 0, none⟩ = some (.int .i64 p) ∧ w'.cell? ⟨w.heap.size, 1, none⟩ = some (.slice A n c) ∧ w'.cell? ⟨w.heap.size + 1, 1, none⟩ = some (.slice B m d)) (go_keep) (first | (refine step_appW rfl (.tmp 7) (.tmp 9) rfl (w.heap.size + 3) (.slice (some ⟨wo.heap.size, 0, none⟩) 0 0) 0 [] rfl (own_lit0 (by omega)) A n c us rfl (HU.out.up (bvia B0 (by go_grown))) HL.out (by omega) (by simp; omega) ?_; intro A1 c1 w1 hown1 hgrow1; have hb1 := (((Below.refl (w.heap.size + 3) wo).alloc (by omega) (.cells #[] 26)).drew).grown hgrow1 (by simp; omega) (fun k hk => by simp [Value.ownBlock] at hk; omega); obtain ⟨t0, t1, t2⟩ := HK.out _ hb1) | (refine step_appW rfl (.tmp 10) (.tmp 12) rfl (w.heap.size + 3) (.slice A1 (0 + n) c1) (0 + n) _ rfl hown1 B m d vs rfl (HV.out.up (B0.trans (hb1.mono (by omega)))) HL'.out (by omega) (by have := hb1.size; omega) ?_; intro A2 c2 w2 hown2 hgrow2; have hb2 := hb1.grown hgrow2 (by have := hb1.size; omega) (fun k hk => by have := (hown1.lt k hk).1; omega); obtain ⟨u0, u1, u2⟩ := HK.out _ hb2; have Q2 := HK2.out _ hb2; have x0 : w2.cell? ⟨sq, 0, none⟩ = some (.int .i64 0) := Q2.cell 0; have x1 : w2.cell? ⟨sq, 1, none⟩ = some (.slice none 0 0) := Q2.cell 1; have f0 := Q2.free 0; have f1 := Q2.free 1; have ql := Q2.lt; have HQ2 := Lib.hid Q2; clear Q2))
  go_wp2
  refine post_cell ((HQ2.out.set 0 _).set 1 _) Try.results23 rfl rfl Try.underlying24 (by kernel_rfl) ?_
  rw [Nat.zero_add] at hown2
  have hown3 := ownsRow_setCell_below (ownsRow_setCell_below hown2 (a := ⟨sq, 0, none⟩) (by have := HQ.out; simp; omega) (.int .i64 p)) (a := ⟨sq, 1, none⟩) (by have := HQ.out; simp; omega) (.slice A2 (n + m) c2)
  have hcc := own_caps hown3
  refine ⟨A2, _, c2, rfl, own_rdW hown3, by rw [List.length_append, HL.out, HL'.out], hcc.1, hcc.2, ((B0.trans (hb2.mono (by omega))).setCell (by simpa using hq2) _).setCell (by simpa using hq2) _⟩
end Go.Proofs.Ytnjenggijmbhcaa
