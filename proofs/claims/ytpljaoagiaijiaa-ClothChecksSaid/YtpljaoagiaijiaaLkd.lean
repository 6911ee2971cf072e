/-
  Contract of cloth.Linked at a valid cloth, given what slices.DeleteFunc says of the empty sets.
-/
import Derived.Test.YtpljaoagiaijiaaRow
import Derived.Test.YtpljaoagiaijiaaOrd
import Derived.Deep.Cut
namespace Go.Proofs.Ytpljaoagiaijiaa
open Go.RowKit
theorem infoIs : (Try.prog.info? 35).map (fun i => (i.zero, i.size, i.bytes)) = some (some (.slice none 0 0), 1, 24) := by kernel_rfl
theorem mkIs (n : Nat) (_ : n ≤ 1000) (W : World) : (Instr.makeSlice 66 (.int .i64 (n : Int)) (.int .i64 (n : Int))).run Try.prog W = .ok (.slice (some ⟨W.heap.size, 0, none⟩) n n) (W.alloc (.cells (madeCells #[.slice none 0 0] n) 35)) := by
  obtain ⟨i, hi, hz, hs, hb⟩ := info_parts infoIs
  have h := run_make (P := Try.prog) W 66 35 i (.slice none 0 0) Try.underlying66 hi hz .i64 .i64 (n : Int) (n : Int) (by omega) (Int.le_refl _) (by rw [hb]; omega) (by omega)
  rw [hs] at h
  simpa [Value.cells] using h
/-- a slice of slices of ints, read as lists -/
def RdRs (w : World) (B : Nat) (A : Option Addr) (rows : List (List Int)) : Prop :=
  ∀ (k : Nat) (r : List Int), rows[k]? = some r → ∃ b o, A = some ⟨b, o, none⟩ ∧ b < B ∧ ∃ X nx cx, w.cell? ⟨b, o + k, none⟩ = some (.slice X nx cx) ∧ RdI w w.heap.size X r ∧ r.length = nx ∧ nx ≤ cx ∧ cx ≤ 9223372036854775807
def neV : Value → Bool
  | .slice _ n _ => n != 0
  | _ => false
/-- what slices.DeleteFunc says of the empty sets -/
def DelSays : Prop := ∀ (g T : Nat) (Vs : List Value) (W : World), Has W g 35 Vs → Vs.length = T → T ≤ 48 → (∀ v ∈ Vs, ∃ A n c, v = .slice A n c ∧ n ≤ c ∧ c ≤ 9223372036854775807) →
  Calls Try.prog 55 #[.slice (some ⟨g, 0, none⟩) T T, .func (.func 56) #[] #[]] W fun e w' => ∃ rest, e = .returned (.slice (some ⟨g, 0, none⟩) (Vs.filter neV).length T) ∧ Has w' g 35 (Vs.filter neV ++ rest) ∧ But g W w'
theorem filter_pair {Vs : List Value} {rows : List (List Int)} (hl : Vs.length = rows.length) (h : ∀ (q : Nat) (v : Value) (r : List Int), Vs[q]? = some v → rows[q]? = some r → neV v = !r.isEmpty) :
    (Vs.filter neV).length = (rows.filter (fun l => !l.isEmpty)).length ∧ ∀ (k : Nat) (r : List Int), (rows.filter (fun l => !l.isEmpty))[k]? = some r → ∃ (q : Nat) (v : Value), rows[q]? = some r ∧ Vs[q]? = some v ∧ (Vs.filter neV)[k]? = some v := by
  induction Vs generalizing rows with
  | nil =>
    obtain rfl : rows = [] := List.length_eq_zero_iff.1 hl.symm
    exact ⟨rfl, fun k r hr => by simp at hr⟩
  | cons v Vs ih =>
    cases rows with
    | nil => simp at hl
    | cons r0 rows =>
      obtain ⟨i1, i2⟩ := ih (rows := rows) (by simpa using hl) (fun q u s hu hs => h (q + 1) u s (by simpa using hu) (by simpa using hs))
      have h0 := h 0 v r0 rfl rfl
      cases hn : neV v with
      | false =>
        rw [hn] at h0
        rw [List.filter_cons_of_neg (by rw [hn]; decide), List.filter_cons_of_neg (by rw [← h0]; decide)]
        refine ⟨i1, fun k r hr => ?_⟩
        obtain ⟨q, u, e1, e2, e3⟩ := i2 k r hr
        exact ⟨q + 1, u, by simpa using e1, by simpa using e2, e3⟩
      | true =>
        rw [hn] at h0
        rw [List.filter_cons_of_pos hn, List.filter_cons_of_pos (p := fun l : List Int => !l.isEmpty) (show (!r0.isEmpty) = true from h0.symm)]
        refine ⟨by rw [List.length_cons, List.length_cons, i1], fun k r hr => ?_⟩
        cases k with
        | zero => exact ⟨0, v, by simpa using hr, rfl, rfl⟩
        | succ k =>
          obtain ⟨q, u, e1, e2, e3⟩ := i2 k r (by simpa using hr)
          exact ⟨q + 1, u, by simpa using e1, by simpa using e2, by simpa using e3⟩
theorem RowsSt.ne {W : World} {g base : Nat} {Vs : List Value} {rows : List (List Int)} (h : RowsSt W g base Vs rows) : ∀ (q : Nat) (v : Value) (r : List Int), Vs[q]? = some v → rows[q]? = some r → neV v = !r.isEmpty := fun q v r hv hr => by
  have ho := h.own q v r hv hr
  obtain ⟨X, cx, rfl⟩ := own_form ho
  cases r with
  | nil => rfl
  | cons a r => simp [neV]
theorem filter_len {W : World} {g base : Nat} {Vs : List Value} {rows : List (List Int)} (h : RowsSt W g base Vs rows) : (Vs.filter neV).length = (rows.filter (fun l => !l.isEmpty)).length := (filter_pair h.len h.ne).1
theorem RowsSt.kept {W W' : World} {g base : Nat} {Vs rest : List Value} {rows : List (List Int)} (h : RowsSt W g base Vs rows) (hh : Has W' g 35 (Vs.filter neV ++ rest)) (hb : But g W W') : RdRs W' W'.heap.size (some ⟨g, 0, none⟩) (rows.filter (fun l => !l.isEmpty)) := fun k r hr => by
  obtain ⟨q, v, e1, e2, e3⟩ := (filter_pair h.len h.ne).2 k r hr
  have ho := h.own q v r e2 e1
  obtain ⟨X, cx, rfl⟩ := own_form ho
  have ho2 := hb.own ho (fun e => by have := (ho.lt g e).1; have := h.lo; omega)
  have hc := own_caps ho2
  refine ⟨g, 0, rfl, hh.lt, X, r.length, cx, ?_, own_rd1 ho2, rfl, hc.1, hc.2⟩
  rw [Nat.zero_add, hh.cell, List.getElem?_append_left (lt_of_get e3)]
  exact e3
set_option maxRecDepth 100000 in
set_option maxHeartbeats 8000000 in
theorem linked30 (T : Nat) (A B : Option Addr) (n c m d : Nat) (xs ps : List Q4) (w : World) (hn : n ≤ 9223372036854775807) (hm : m ≤ 9223372036854775807) (hx : RdQ w w.heap.size A xs) (hp : RdQ w w.heap.size B ps) (hl : xs.length = n) (hl' : ps.length = m) (hE : ckE (T : Int) xs ps = 0) (hdel0 : DelSays) :
    Calls Try.prog 30 #[vCloth (T : Int) A n c B m d] w fun e w' => ∃ A' n' c', e = .returned (.tuple #[.slice A' n' c', .int .i64 0]) ∧ RdRs w' w'.heap.size A' (setsR xs T) ∧ (setsR xs T).length = n' ∧ Below w.heap.size w w' := by
  have hdel := Lib.hid hdel0
  clear hdel0
  have C1 := Lib.hid (fun (W : World) (hb : Below w.heap.size w W) => check42 (T : Int) A B n c m d xs ps W hn hm (hx.up hb) (hp.up hb) hl hl' (by omega))
  rw [hE] at C1
  have K0 : Has (w.alloc (.cells #[.int .i64 (T : Int), .slice A n c, .slice B m d] 30)) w.heap.size 30 [.int .i64 (T : Int), .slice A n c, .slice B m d] := Has.new rfl
  obtain ⟨ht2, ht48, hn2, _⟩ := ckE_ok hE
  have hT : T ≤ 48 := by omega
  have hn3 : n ≤ 20000 := by omega
  have HCR : Hid (∀ x ∈ xs, (0 ≤ x.c ∧ x.c < (T : Int)) ∧ 0 ≤ x.d ∧ x.d < (T : Int)) := fun x hx => (cross_ok hE x hx).1
  have HX := Lib.hid hx
  have HL := Lib.hid hl
  clear hx hp hl hl' hE ht48 hn2
  go_enter Try.func30, Try.ntmps30
  go_wp2_with fail
  refine (C1.out _ (by go_grown)).mono ?_
  rintro e1 w1 ⟨rfl, hb1⟩
  have B1 : Below w.heap.size w w1 := bvia (show Below w.heap.size w _ by go_grown) hb1
  have HB := Lib.hid (K0.below hb1 K0.lt)
  clear K0 hb1 C1
  go_wp2_with fail
  refine (begun57 _).mono ?_
  rintro e2 w2 ⟨rfl, hb2⟩
  have hlen : ((lineL 48).map vInt).length = 48 := by simp [lineL_len]
  have hinfo : (Try.prog.info? 93).map (·.size) = some 48 := by kernel_rfl
  have B2 := bvia B1 hb2
  have HB2 := HB.out.below hb2 HB.out.lt
  go_wp2_with (first | (refine wpList_store_has rfl 93 (.tmp 5) (.tmp 18) rfl w2.heap.size ((lineL 48).map vInt) rfl rfl 93 _ (Has.new rfl) (by rw [hlen, hinfo]) (by rw [hlen]; rfl) (by simp [lineL]; intros; rfl) ?_) | fail)
  intro w3 hG3 hBut
  have hb3 : Below w2.heap.size w2 w3 := ((Below.refl _ w2).alloc (Nat.le_refl _) _).trans (hBut.below (Nat.le_refl _) (by simp))
  have B3 := bvia B2 hb3
  have HB3 := Lib.hid (HB2.below hb3 HB2.lt)
  obtain ⟨gs, hgs⟩ : ∃ gs, gs = w2.heap.size := ⟨_, rfl⟩
  have hws : w.heap.size < gs := by rw [hgs]; exact HB2.lt
  rw [← hgs] at hG3 ⊢
  have HG3 := Lib.hid hG3
  have a1 : w3.cell? ⟨w.heap.size, 1, none⟩ = some (.slice A n c) := HB3.out.cell 1
  have q := HB3.out.lt
  clear hG3 hBut hb3 hgs hlen hinfo HB2 B2 hb2 HB B1
  go_wp2
  go_loopw [23] (fun i wr => ∃ (j : Nat) (s : List Int), j ≤ n ∧ i = .int .i64 (j : Int) ∧ JoinOk xs T j s ∧ Hid (Has wr gs 93 (s.map vInt)) ∧ Hid (Has wr w.heap.size 30 [.int .i64 (T : Int), .slice A n c, .slice B m d]) ∧ Below w.heap.size w wr) (fun i _ => n - (intOf i).toNat)
  case atStart => exact ⟨0, lineL 48, Nat.zero_le _, rfl, join_start xs hT, HG3, HB3, B3⟩
  case round =>
    clear HG3 HB3 B3 a1 q
    obtain ⟨j, s, hj, rfl, hJ, HG, HC, hb⟩ := hrel
    obtain ⟨wo, rfl⟩ : ∃ wo : World, wo = wr := ⟨_, rfl⟩
    have HJ := Lib.hid hJ
    clear hJ
    by_cases hlt : j < n
    · obtain ⟨x, hx⟩ := get_of_lt (l := xs) (k := j) (by rw [HL.out]; exact hlt)
      obtain ⟨⟨xc0, xc1⟩, xd0, xd1⟩ := HCR.out x (mem_of_get hx)
      obtain ⟨cn, hc⟩ := Int.eq_ofNat_of_zero_le xc0
      obtain ⟨dn, hd⟩ := Int.eq_ofNat_of_zero_le xd0
      have hcT : cn < T := by omega
      have hdT : dn < T := by omega
      have hcn : x.c.toNat = cn := by rw [hc]; simp
      have hdn : x.d.toNat = dn := by rw [hd]; simp
      have hNx := join_next HJ.out hx ⟨by rw [hcn]; exact hcT, by rw [hdn]; exact hdT⟩
      rw [hcn, hdn] at hNx
      obtain ⟨ra, hra⟩ : ∃ ra, ra = repTo xs j cn := ⟨_, rfl⟩
      obtain ⟨rb, hrb⟩ : ∃ rb, rb = repTo xs j dn := ⟨_, rfl⟩
      rw [← hra, ← hrb] at hNx
      have hraT : ra < T := by have := repTo_le xs j cn; omega
      have hrbT : rb < T := by have := repTo_le xs j dn; omega
      have HRA : Hid (rt s cn = ra) := by show rt s cn = ra; rw [hra]; exact HJ.out.2.2 cn hcT
      have HRB : Hid (rt s dn = rb) := by show rt s dn = rb; rw [hrb]; exact HJ.out.2.2 dn hdT
      have HNx := Lib.hid hNx
      obtain ⟨ba, o, rfl, hba, c0, c1, c2, c3⟩ := (HX.out.up hb) j x hx
      rw [hc] at c2
      rw [hd] at c3
      have a1 : wo.cell? ⟨w.heap.size, 1, none⟩ = some (.slice (some ⟨ba, o, none⟩) n c) := HC.out.cell 1
      have q := HC.out.lt
      have jn : (j : Int) < (n : Int) := by omega
      obtain ⟨w5, hw5⟩ : ∃ w5, w5 = wo.alloc (.cells #[.int .i64 x.a, .int .i64 x.b, .int .i64 (cn : Int), .int .i64 (dn : Int)] 70) := ⟨_, rfl⟩
      have hb5 : Below wo.heap.size wo w5 := by rw [hw5]; go_grown
      have K5 : Has w5 wo.heap.size 70 [.int .i64 x.a, .int .i64 x.b, .int .i64 (cn : Int), .int .i64 (dn : Int)] := by rw [hw5]; exact Has.new rfl
      go_upto_region 9 with (fail)
      rw [← hw5]
      obtain ⟨gx, hgx⟩ : ∃ g, g = wo.heap.size := ⟨_, rfl⟩
      rw [← hgx] at K5 ⊢
      have HG5 := Lib.hid (HG.out.below hb5 HG.out.lt)
      have HC5 := Lib.hid (HC.out.below hb5 HC.out.lt)
      have B5 := bvia hb hb5
      have k2 : w5.cell? ⟨gx, 2, none⟩ = some (.int .i64 (cn : Int)) := K5.cell 2
      have k3 : w5.cell? ⟨gx, 3, none⟩ = some (.int .i64 (dn : Int)) := K5.cell 3
      have qx := K5.lt
      have JC := Lib.hid (fun (y : Ext w5) (nn : Nat) (hnn : nn < T) => first54 gs T nn s y.out (HG5.out.below y.below HG5.out.lt) HJ.out.1 hT hnn)
      clear hx hNx hw5 hb5 hgx K5 c0 c1 c2 c3 a1 q HG HC hb hba hc hd hcn hdn hra hrb xc0 xc1 xd0 xd1
      have hxc := fun (x : Ext w5) => x.cell
      refine wp_region_ext (by kernel_rfl) (by kernel_rfl) ?_
      repeat (go_big_quiet_step ((go_at_call 54; exact ext_same (JC.out _ _ (by assumption)))))
      refine wpQuiet_nil ?_
      intro w6 hw'
      have hb6 := ext_below hw'
      clear hw' hxc k2 k3 qx JC
      rw [HRA.out, HRB.out]
      have HG6 := Lib.hid (HG5.out.below hb6 HG5.out.lt)
      have HC6 := Lib.hid (HC5.out.below hb6 HC5.out.lt)
      have B6 := bvia B5 hb6
      clear hb6 HG5 HC5 B5
      obtain ⟨mx, hmx⟩ : ∃ mx, mx = max ra rb := ⟨_, rfl⟩
      obtain ⟨mn, hmn⟩ : ∃ mn, mn = min ra rb := ⟨_, rfl⟩
      rw [← hmx, ← hmn] at HNx
      have hmxT : mx < 48 := by omega
      obtain ⟨vm, hvm⟩ := get_of_lt (l := s) (k := mx) (by rw [HJ.out.2.1]; exact hmxT)
      have g0 : w6.cell? ⟨gs, mx, none⟩ = some (.int .i64 vm) := (HG6.out.cell mx).trans (by rw [List.getElem?_map, hvm]; rfl)
      have f0 := HG6.out.free mx
      have qg := HG6.out.lt
      have mxi : (mx : Int) < 48 := by omega
      have HFIN : Hid (∀ W, W = w6.setCell ⟨gs, mx, none⟩ (.int .i64 (mn : Int)) → Has W gs 93 ((s.set mx (mn : Int)).map vInt) ∧ Has W w.heap.size 30 [.int .i64 (T : Int), .slice (some ⟨ba, o, none⟩) n c, .slice B m d] ∧ Below w.heap.size w W) := fun W hW => by
        subst hW
        refine ⟨?_, HC6.out.far (by omega) _ _, B6.setCell (show w.heap.size ≤ gs by omega) _⟩
        rw [List.map_set]
        exact HG6.out.set mx (vInt (mn : Int))
      clear hvm
      rcases Nat.lt_trichotomy ra rb with hab | hab | hab
      · obtain rfl : mx = rb := by omega
        obtain rfl : mn = ra := by omega
        have n1 : (mn : Int) < (mx : Int) := by omega
        have n2 : ¬ (mx : Int) < (mn : Int) := by omega
        have n3 : ¬ mx < mn := by omega
        clear hmx hmn
        go_wp2
        go_roundw
        case rel =>
          obtain ⟨h1, h2, h3⟩ := HFIN.out _ rfl
          exact ⟨j + 1, s.set mx (mn : Int), by omega, by go_num, HNx.out, Lib.hid h1, Lib.hid h2, h3⟩
        case measure => first | (simp [intOf]; done) | (simp [intOf]; omega)
      · subst hab
        obtain rfl : mx = ra := by omega
        obtain rfl : mn = mx := by omega
        clear hmx hmn
        go_wp2
        go_roundw
        case rel =>
          obtain ⟨h1, h2, h3⟩ := HFIN.out _ rfl
          exact ⟨j + 1, _, by omega, by go_num, HNx.out, Lib.hid h1, Lib.hid h2, h3⟩
        case measure => first | (simp [intOf]; done) | (simp [intOf]; omega)
      · obtain rfl : mx = ra := by omega
        obtain rfl : mn = rb := by omega
        have n1 : (mn : Int) < (mx : Int) := by omega
        have n2 : ¬ (mx : Int) < (mn : Int) := by omega
        have n3 : ¬ mx < mn := by omega
        clear hmx hmn
        go_wp2
        go_roundw
        case rel =>
          obtain ⟨h1, h2, h3⟩ := HFIN.out _ rfl
          exact ⟨j + 1, s.set mx (mn : Int), by omega, by go_num, HNx.out, Lib.hid h1, Lib.hid h2, h3⟩
        case measure => first | (simp [intOf]; done) | (simp [intOf]; omega)
    · obtain rfl : n = j := by omega
      have hRT : Hid (∀ k, k < T → rt s k = repTo xs xs.length k) := fun k hk => by rw [HL.out]; exact HJ.out.2.2 k hk
      have a0 : wo.cell? ⟨w.heap.size, 0, none⟩ = some (.int .i64 (T : Int)) := HC.out.cell 0
      have q := HC.out.lt
      have hmk := mkIs T (by omega)
      obtain ⟨wa, hwa⟩ : ∃ wa, wa = wo.alloc (.cells (madeCells #[.slice none 0 0] T) 35) := ⟨_, rfl⟩
      have hba : Below wo.heap.size wo wa := by rw [hwa]; go_grown
      have Ka : Has wa wo.heap.size 35 (List.replicate T (.slice none 0 0)) := by rw [hwa]; exact Has.new (by rw [made_rep])
      go_upto_region 13 with (fail)
      rw [← hwa]
      obtain ⟨ga, hga⟩ : ∃ g, g = wo.heap.size := ⟨_, rfl⟩
      have hgs2 : gs < ga := by rw [hga]; exact HG.out.lt
      rw [← hga] at Ka ⊢
      have HGA : Hid (w.heap.size ≤ ga) := by show w.heap.size ≤ ga; omega
      have HG0 := Lib.hid (HG.out.below hba HG.out.lt)
      have HC0 := Lib.hid (HC.out.below hba HC.out.lt)
      have HR0 : Hid (RowsSt wa ga (ga + 1) (List.replicate T (.slice none 0 0)) (grpTo xs T 0)) := by
        show RowsSt _ _ _ _ _
        rw [grpTo_zero]
        exact RowsSt.start Ka (Nat.lt_succ_self _)
      have B0 := bvia hb hba
      have PJ := Lib.hid HJ.out.1
      clear hmk hwa hga Ka a0 HG HC hb hba HJ
      have a0 : wa.cell? ⟨w.heap.size, 0, none⟩ = some (.int .i64 (T : Int)) := HC0.out.cell 0
      have q2 := HC0.out.lt
      go_wp2
      go_loopw [48] (fun i wr => ∃ (k : Nat) (Vs : List Value), k ≤ T ∧ i = .int .i64 (k : Int) ∧ Hid (RowsSt wr ga (ga + 1) Vs (grpTo xs T k)) ∧ Hid (Has wr gs 93 (s.map vInt)) ∧ Below w.heap.size w wr) (fun i _ => T - (intOf i).toNat)
      case atStart => exact ⟨0, _, Nat.zero_le _, rfl, HR0, HG0, B0⟩
      case round =>
        clear HR0 HG0 B0 a0 q2 HC0
        obtain ⟨k, Vs, hk, rfl, HR, HG, hb⟩ := hrel
        obtain ⟨wo, rfl⟩ : ∃ wo : World, wo = wr := ⟨_, rfl⟩
        by_cases hkT : k < T
        · have kT : (k : Int) < (T : Int) := by omega
          have J := Lib.hid (fun (W : World) (hW : Below wo.heap.size wo W) => first54 gs T k s W (HG.out.below hW HG.out.lt) PJ.out hT hkT)
          rw [hRT.out k hkT] at J
          obtain ⟨rk, hrk⟩ : ∃ rk, rk = repTo xs xs.length k := ⟨_, rfl⟩
          rw [← hrk] at J
          have hrT : rk < T := by have := repTo_le xs xs.length k; omega
          obtain ⟨r, hr⟩ := get_of_lt (l := grpTo xs T k) (k := rk) (by unfold grpTo; simp; exact hrT)
          obtain ⟨v, hv⟩ := get_of_lt (l := Vs) (k := rk) (by rw [HR.out.len]; exact lt_of_get hr)
          have HGS := Lib.hid (grpTo_succ hrk.symm hrT hr)
          have hown := HR.out.own rk v r hv hr
          obtain ⟨X, cx, rfl⟩ := own_form hown
          have hrl : r.length ≤ 48 := by
            rw [grpTo_get hrT] at hr
            injection hr with hr
            rw [← hr, List.length_map]
            exact Nat.le_trans (List.length_filter_le _ _) (by rw [List.length_range]; omega)
          have g0 : wo.cell? ⟨ga, rk, none⟩ = some (.slice X r.length cx) := (HR.out.has.cell rk).trans hv
          have qg := HR.out.has.lt
          have rkT : (rk : Int) < (T : Int) := by omega
          have HOW := Lib.hid (hown.alloc (.cells #[.int .i64 (k : Int)] 3))
          have HRA2 := Lib.hid (HR.out.below ((Below.refl _ wo).alloc (Nat.le_refl _) (.cells #[.int .i64 (k : Int)] 3)))
          have hsz := HR.out.has.lt
          have HV := Lib.hid hv
          have HRR := Lib.hid hr
          clear hv hr hown hrk
          go_wp2_with (first
            | (go_at_call 54; refine (J.out _ (Below.refl _ _)).mono ?_; rintro e5 w5 ⟨rfl, rfl⟩)
            | (at_builtin; refine wpList_app rfl (.tmp 60) (.tmp 62) _ rfl (ga + 1) 3 (.int .i64 0) 1 8 Try.underlying35 infoInt rfl (by omega) (by omega) _ _ _ rfl HOW.out wo.heap.size [vInt (k : Int)] rfl rfl (news_new _ _ _) (one_int _ _) (by omega) (by simp; omega) ?_; intro gb cap1 w7 hg1 hown1 hgrow1 hor1; have HA7 : Has w7 ga _ Vs := HRA2.out.has.same (hgrow1.block ga HRA2.out.has.lt (fun e => by have := (HOW.out.lt ga e.symm).1; omega)); have z1 : w7.cell? ⟨ga, rk, none⟩ = some (.slice X r.length cx) := (HA7.cell rk).trans HV.out; have f1 := HA7.free rk; have q7 := HA7.lt)
            | fail)
          go_roundw
          case rel =>
            have hP := HRA2.out.pushed HV.out HRR.out hown1 hgrow1 (fun b hb' => by
              have hb2 : gb = b := by simpa [Value.ownBlock] using hb'
              subst hb2
              rcases hor1 with h | h
              · exact .inl h
              · exact .inr (Nat.le_of_eq h.symm))
            rw [← HGS.out] at hP
            have hgs3 : gs ≠ ga := by omega
            have hG7 := HG.out.alloc (.cells #[.int .i64 (k : Int)] 3)
            have hG8 : Has w7 gs _ _ := hG7.same (hgrow1.block gs hG7.lt (fun e => by have := (HOW.out.lt gs e.symm).1; omega))
            exact ⟨k + 1, _, by omega, by go_num, Lib.hid hP, Lib.hid (hG8.far hgs3 _ _), ((hb.alloc (by have := HG.out.lt; omega) _).grown hgrow1 (by simp; have := HG.out.lt; omega) (fun r hr => by have := (HOW.out.lt r hr).1; have := HGA.out; omega)).setCell HGA.out _⟩
          case measure => first | (simp [intOf]; done) | (simp [intOf]; omega)
        · obtain rfl : T = k := by omega
          have J := Lib.hid (hdel.out ga T Vs wo HR.out.has (by rw [HR.out.len]; unfold grpTo; simp) hT (fun v hv => by
            obtain ⟨q, hq, rfl⟩ := List.mem_iff_getElem.1 hv
            obtain ⟨r, hr⟩ := get_of_lt (l := grpTo xs T T) (k := q) (by rw [← HR.out.len]; exact hq)
            have ho := HR.out.own q _ r (List.getElem?_eq_getElem hq) hr
            obtain ⟨X, cx, hX⟩ := own_form ho
            exact ⟨X, _, cx, hX, (own_caps (hX ▸ ho)).1, (own_caps (hX ▸ ho)).2⟩))
          go_wp2_with fail
          refine J.out.mono ?_
          rintro e9 w9 ⟨rest, rfl, hH, hBut⟩
          have HRD := Lib.hid (RowsSt.kept HR.out hH hBut)
          have B9 := hb.trans (hBut.below HGA.out (by have := HG.out.lt; omega))
          clear J hH hBut
          go_wp2
          go_ret2
          refine ⟨some ⟨ga, 0, none⟩, _, T, rfl, ?_, ?_, B9⟩
          · rw [setsR_grp]; exact HRD.out
          · rw [setsR_grp]
            exact (filter_len HR.out).symm
end Go.Proofs.Ytpljaoagiaijiaa
