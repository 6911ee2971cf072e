/-
  Contract of torchonref17.Linked at a valid cloth (under way: the rounds).
-/
import Derived.Test.YtpljaoagiaijiaaLkf
import Derived.Test.YtpljaoagiaijiaaMkr
import Derived.Deep.Cut
import Derived.Deep.CutRange
namespace Go.Proofs.Ytpljaoagiaijiaa
open Go.RowKit
/-- the numbers below i whose least thread is k -/
def grpI (xs : List Q4) (k i : Nat) : List Int := ((List.range i).filter (fun a => repTo xs xs.length a == k)).map (fun (a : Nat) => (a : Int))
def setsTo (xs : List Q4) (T k : Nat) : List (List Int) := ((List.range k).map (fun q => grpI xs q T)).filter (fun l => !l.isEmpty)
theorem setsTo_all (xs : List Q4) (T : Nat) : setsTo xs T T = setsR xs T := rfl
theorem setsTo_succ (xs : List Q4) (T k : Nat) : setsTo xs T (k + 1) = setsTo xs T k ++ if (grpI xs k T).isEmpty = true then [] else [grpI xs k T] := by
  unfold setsTo
  rw [List.range_succ, List.map_append, List.filter_append]
  congr 1
  cases h : (grpI xs k T).isEmpty <;> simp [h]
theorem grpI_succ (xs : List Q4) (k i : Nat) : grpI xs k (i + 1) = grpI xs k i ++ if repTo xs xs.length i = k then [(i : Int)] else [] := by
  unfold grpI
  rw [List.range_succ, List.filter_append, List.map_append]
  congr 1
  by_cases h : repTo xs xs.length i = k
  · rw [if_pos h]; simp [h]
  · rw [if_neg h]; simp [h]
theorem grpI_len (xs : List Q4) (k i : Nat) : (grpI xs k i).length ≤ i := by
  unfold grpI
  rw [List.length_map]
  exact Nat.le_trans (List.length_filter_le _ _) (by rw [List.length_range]; exact Nat.le_refl _)
theorem setsTo_len (xs : List Q4) (T k : Nat) : (setsTo xs T k).length ≤ k := by
  unfold setsTo
  exact Nat.le_trans (List.length_filter_le _ _) (by rw [List.length_map, List.length_range]; exact Nat.le_refl _)
/-- the row of slices made so far; all rows of ints lie below hi -/
structure RowsO (W : World) (base hi : Nat) (v : Value) (m : Nat) (Us : List Value) (rows : List (List Int)) : Prop where
  out : W.ownsRow base 35 1 v m Us
  len : Us.length = rows.length
  m : Us.length = m
  each : ∀ (q : Nat) (u : Value) (r : List Int), Us[q]? = some u → rows[q]? = some r → W.ownsRow base 3 1 u r.length (r.map vInt) ∧ ∀ b, u.ownBlock = some b → b < hi
  top : hi ≤ W.heap.size
theorem RowsO.below {W W' : World} {base hi m : Nat} {v : Value} {Us : List Value} {rows : List (List Int)} (h : RowsO W base hi v m Us rows) (k : Below W.heap.size W W') : RowsO W' base hi v m Us rows :=
  ⟨own_below h.out k, h.len, h.m, fun q u r hu hr => ⟨own_below (h.each q u r hu hr).1 k, (h.each q u r hu hr).2⟩, Nat.le_trans h.top k.size⟩
/-- the new row of ints grows -/
theorem RowsO.grow {W W' : World} {base hi m n : Nat} {v l : Value} {Us ys : List Value} {rows : List (List Int)} (h : RowsO W base hi v m Us rows) (hl : W.ownsRow hi 3 1 l n ys) (k : W.grownBy W' l.ownBlock) : RowsO W' base hi v m Us rows := by
  refine ⟨?_, h.len, h.m, fun q u r hu hr => ?_, Nat.le_trans h.top k.size⟩
  · exact h.out.kept k (by cases hv : v.ownBlock with | none => exact .inl rfl | some g => exact .inr (fun e => own_apart h.out hl (by decide) hv e.symm))
  · obtain ⟨h1, h2⟩ := h.each q u r hu hr
    refine ⟨h1.kept k ?_, h2⟩
    cases hu2 : u.ownBlock with
    | none => exact .inl rfl
    | some b => exact .inr (fun e => by have := (hl.lt b e.symm).1; have := h2 b hu2; omega)
/-- the new row is put behind the others -/
theorem RowsO.push {W W' : World} {base hi m : Nat} {v v' l : Value} {Us : List Value} {rows : List (List Int)} {r : List Int} (h : RowsO W base hi v m Us rows) (hb : base ≤ hi) (hl : W.ownsRow hi 3 1 l r.length (r.map vInt)) (ho : W'.ownsRow base 35 1 v' (m + 1) (Us ++ [l])) (k : W.grownBy W' v.ownBlock) : RowsO W' base W'.heap.size v' (m + 1) (Us ++ [l]) (rows ++ [r]) := by
  refine ⟨ho, by simp [h.len], by simp [h.m], fun q u s hu hs => ?_, Nat.le_refl _⟩
  have keep : ∀ {bs n : Nat} {u : Value} {ys : List Value}, W.ownsRow bs 3 1 u n ys → W'.ownsRow bs 3 1 u n ys := fun hu => hu.kept k (by
    rename_i u _
    cases hu2 : u.ownBlock with
    | none => exact .inl rfl
    | some g => exact .inr (fun e => own_apart hu h.out (by decide) hu2 e.symm))
  have fin : W'.ownsRow base 3 1 u s.length (s.map vInt) := by
    rcases Nat.lt_or_ge q Us.length with g | g
    · rw [List.getElem?_append_left g] at hu
      rw [List.getElem?_append_left (by rw [← h.len]; exact g)] at hs
      exact keep (h.each q u s hu hs).1
    · rw [List.getElem?_append_right g] at hu
      rw [List.getElem?_append_right (by rw [← h.len]; exact g), ← h.len] at hs
      cases hq : q - Us.length with
      | zero =>
        rw [hq] at hu hs
        injection hu with hu; injection hs with hs
        rw [← hu, ← hs]
        exact own_mono (keep hl) hb
      | succ z => rw [hq] at hu; cases hu
  exact ⟨fin, fun b hb2 => (fin.lt b hb2).2⟩
theorem RowsO.read {W : World} {base hi m c : Nat} {X : Option Addr} {Us : List Value} {rows : List (List Int)} (h : RowsO W base hi (.slice X m c) m Us rows) : RdRs W W.heap.size X rows := fun k r hr => by
  obtain ⟨u, hu⟩ := get_of_lt (l := Us) (k := k) (by rw [h.len]; exact lt_of_get hr)
  obtain ⟨h1, _⟩ := h.each k u r hu hr
  obtain ⟨Y, cy, rfl⟩ := own_form h1
  obtain ⟨g, rfl, _, h2, h3⟩ := own_at h.out hu
  have hc := own_caps h1
  exact ⟨g, 0, rfl, h2, Y, r.length, cy, by rw [Nat.zero_add]; exact h3, own_rd1 h1, rfl, hc.1, hc.2⟩
theorem one_sl (v : Value) (h : v.oneCell' = true) : ∀ u ∈ [v], u.oneCell' = true := fun u hu => by simp at hu; subst hu; exact h
set_option maxRecDepth 100000 in
set_option maxHeartbeats 8000000 in
theorem linked34 (T : Nat) (A B : Option Addr) (n c m d : Nat) (xs ps : List Q4) (w : World) (hn : n ≤ 9223372036854775807) (hm : m ≤ 9223372036854775807) (hx : RdQ w w.heap.size A xs) (hp : RdQ w w.heap.size B ps) (hl : xs.length = n) (hl' : ps.length = m) (hE : ckE (T : Int) xs ps = 0) :
    Calls Try.prog 34 #[vCloth (T : Int) A n c B m d] w fun e w' => ∃ A' n' c', e = .returned (.tuple #[.slice A' n' c', .int .i64 0]) ∧ RdRs w' w'.heap.size A' (setsR xs T) ∧ (setsR xs T).length = n' ∧ Below w.heap.size w w' := by
  have C1 := Lib.hid (fun (W : World) (hb : Below w.heap.size w W) => check17 (T : Int) A B n c m d xs ps W hn hm (hx.up hb) (hp.up hb) hl hl' (by omega))
  rw [hE] at C1
  have K0 : Has (w.alloc (.cells #[.int .i64 (T : Int), .slice A n c, .slice B m d] 30)) w.heap.size 30 [.int .i64 (T : Int), .slice A n c, .slice B m d] := Has.new rfl
  obtain ⟨ht2, ht48, hn2, _⟩ := ckE_ok hE
  have hT : T ≤ 48 := by omega
  have hT2 : 2 ≤ T := by omega
  have hn3 : n ≤ 20000 := by omega
  have HCR : Hid (∀ x ∈ xs, ((0 ≤ x.c ∧ x.c < (T : Int)) ∧ 0 ≤ x.d ∧ x.d < (T : Int)) ∧ x.c ≠ x.d) := fun x hx => ⟨(cross_ok hE x hx).1, cross_ne hE x hx⟩
  have HTH : Hid (∀ x ∈ xs, thrOk T x) := fun x hx => by have := (cross_ok hE x hx).1; unfold thrOk; omega
  have HX := Lib.hid hx
  have HL := Lib.hid hl
  clear hx hp hl hl' hE ht48 hn2 ht2
  go_enter Try.func34, Try.ntmps34
  go_wp2_with fail
  refine (C1.out _ (by go_grown)).mono ?_
  rintro e1 w1 ⟨rfl, hb1⟩
  have B1 : Below w.heap.size w w1 := bvia (show Below w.heap.size w _ by go_grown) hb1
  have HB := K0.below hb1 K0.lt
  have a0 : w1.cell? ⟨w.heap.size, 0, none⟩ = some (.int .i64 (T : Int)) := HB.cell 0
  have q := HB.lt
  clear K0 hb1 C1
  go_wp2_with fail
  refine (line41 T _ hT).mono ?_
  rintro e2 w2 ⟨A2, n2, cl, rfl, o2, l2, hb2⟩
  obtain rfl : T = n2 := by rw [← l2, lineL_len]
  obtain ⟨gl, rfl, hgl, hgl2, _⟩ := own_at o2 (j := 0) (u := vInt 0) (by rw [List.getElem?_map, lineL_at0 (by omega)]; rfl)
  have HB2 := Lib.hid (HB.below hb2 HB.lt)
  have hwl : w.heap.size < gl := Nat.lt_of_lt_of_le q hgl
  have B2 := bvia B1 hb2
  have HL2 : Hid (w2.ownsRow (w.heap.size + 1) 3 1 (.slice (some ⟨gl, 0, none⟩) T cl) T ((labN17 xs T 0).map vInt)) := own_mono o2 (by omega)
  clear a0 q HB o2 l2 hb2 hgl hgl2 B1
  go_wp2
  go_loopw [6] (fun i wr => ∃ r : Nat, r ≤ T ∧ i = .int .i64 (r : Int) ∧ Hid (wr.ownsRow (w.heap.size + 1) 3 1 (.slice (some ⟨gl, 0, none⟩) T cl) T ((labN17 xs T r).map vInt)) ∧ Hid (Has wr w.heap.size 30 [.int .i64 (T : Int), .slice A n c, .slice B m d]) ∧ Below w.heap.size w wr) (fun i _ => T - (intOf i).toNat)
  case atStart => exact ⟨0, Nat.zero_le _, rfl, HL2, HB2, B2⟩
  case round =>
    clear HL2 HB2 B2
    obtain ⟨r, hr, rfl, HLr, HC, hb⟩ := hrel
    obtain ⟨wo, rfl⟩ : ∃ wo : World, wo = wr := ⟨_, rfl⟩
    have a0 : wo.cell? ⟨w.heap.size, 0, none⟩ = some (.int .i64 (T : Int)) := HC.out.cell 0
    have q := HC.out.lt
    by_cases hrT : r < T
    · have rT : (r : Int) < (T : Int) := by omega
      have HLOK := Lib.hid ((lab_rounds HTH.out r).1)
      go_wp2
      go_loopw [7] (fun i wr => ∃ j : Nat, j ≤ n ∧ i = .int .i64 (j : Int) ∧ Hid (wr.ownsRow (w.heap.size + 1) 3 1 (.slice (some ⟨gl, 0, none⟩) T cl) T ((labR xs (labN17 xs T r) j).map vInt)) ∧ Hid (Has wr w.heap.size 30 [.int .i64 (T : Int), .slice A n c, .slice B m d]) ∧ Below w.heap.size w wr) (fun i _ => n - (intOf i).toNat)
      case atStart => exact ⟨0, Nat.zero_le _, rfl, HLr, HC, hb⟩
      case round =>
        clear HLr HC hb a0 q
        obtain ⟨j, hj, rfl, HLr, HC, hb⟩ := hrel
        obtain ⟨wo, rfl⟩ : ∃ wo : World, wo = wr := ⟨_, rfl⟩
        have a1 : wo.cell? ⟨w.heap.size, 1, none⟩ = some (.slice A n c) := HC.out.cell 1
        have q := HC.out.lt
        by_cases hlt : j < n
        · obtain ⟨x, hx⟩ := get_of_lt (l := xs) (k := j) (by rw [HL.out]; exact hlt)
          obtain ⟨⟨⟨xc0, xc1⟩, xd0, xd1⟩, hcd⟩ := HCR.out x (mem_of_get hx)
          obtain ⟨cn, hc⟩ := Int.eq_ofNat_of_zero_le xc0
          obtain ⟨dn, hd⟩ := Int.eq_ofNat_of_zero_le xd0
          have hcT : cn < T := by omega
          have hdT : dn < T := by omega
          have hne : cn ≠ dn := by omega
          have hcn : x.c.toNat = cn := by rw [hc]; simp
          have hdn : x.d.toNat = dn := by rw [hd]; simp
          have hLO := (HLOK.out.round HTH.out j (by rw [HL.out]; omega)).1
          obtain ⟨va, hva, _, _⟩ := hLO.rng cn hcT
          obtain ⟨vb, hvb, _, _⟩ := hLO.rng dn hdT
          have hvaT : va < T := by have := hLO.rng cn hcT; omega
          have hvbT : vb < T := by have := hLO.rng dn hdT; omega
          have HSU : Hid (labR xs (labN17 xs T r) (j + 1) = ((labR xs (labN17 xs T r) j).set cn ((min va vb : Nat) : Int)).set dn ((min va vb : Nat) : Int)) := by
            show _ = _
            rw [labR_succ hx]
            unfold labS
            rw [hcn, hdn, List.getD_eq_getElem?_getD, List.getD_eq_getElem?_getD, hva, hvb]
            show (List.set _ cn (min (va : Int) (vb : Int))).set dn (min (va : Int) (vb : Int)) = _
            rw [show min (va : Int) (vb : Int) = ((min va vb : Nat) : Int) by omega]
          have r0 : wo.cell? ⟨gl, cn, none⟩ = some (.int .i64 (va : Int)) := (HLr.out.cellAt cn (by omega)).trans (by rw [List.getElem?_map, hva]; rfl)
          have r1 : wo.cell? ⟨gl, dn, none⟩ = some (.int .i64 (vb : Int)) := (HLr.out.cellAt dn (by omega)).trans (by rw [List.getElem?_map, hvb]; rfl)
          obtain ⟨ba, o, rfl, hba, c0, c1, c2, c3⟩ := (HX.out.up hb) j x hx
          rw [hc] at c2
          rw [hd] at c3
          have jn : (j : Int) < (n : Int) := by omega
          obtain ⟨w5, hw5⟩ : ∃ w5, w5 = wo.alloc (.cells #[.int .i64 x.a, .int .i64 x.b, .int .i64 (cn : Int), .int .i64 (dn : Int)] 70) := ⟨_, rfl⟩
          have hb5 : Below wo.heap.size wo w5 := by rw [hw5]; go_grown
          have K5 : Has w5 wo.heap.size 70 [.int .i64 x.a, .int .i64 x.b, .int .i64 (cn : Int), .int .i64 (dn : Int)] := by rw [hw5]; exact Has.new rfl
          go_upto_region 12 with (fail)
          rw [← hw5]
          obtain ⟨gx, hgx⟩ : ∃ g, g = wo.heap.size := ⟨_, rfl⟩
          have hgl0 : gl < wo.heap.size := (HLr.out.lt gl rfl).2
          have hglx : gl < gx := by rw [hgx]; exact hgl0
          have s0 := (hb5.cell (p := ⟨gl, cn, none⟩) hgl0).trans r0
          have s1 := (hb5.cell (p := ⟨gl, dn, none⟩) hgl0).trans r1
          rw [← hgx] at K5 ⊢
          have HL5 := Lib.hid (own_below HLr.out hb5)
          have HC5 := Lib.hid (HC.out.below hb5 HC.out.lt)
          have HX5 := Lib.hid K5
          have B5 := bvia hb hb5
          clear hx hcn hdn hc hd hva hvb hLO hw5 hb5 hgx K5 c0 c1 c2 c3 a1 q HLr HC hb hba xc0 xc1 xd0 xd1 hcd r0 r1 hgl0
          have k2 : w5.cell? ⟨gx, 2, none⟩ = some (.int .i64 (cn : Int)) := HX5.out.cell 2
          have k3 : w5.cell? ⟨gx, 3, none⟩ = some (.int .i64 (dn : Int)) := HX5.out.cell 3
          have qx := HX5.out.lt
          have ql := (HL5.out.lt gl rfl).2
          have cT : (cn : Int) < (T : Int) := by omega
          have dT : (dn : Int) < (T : Int) := by omega
          obtain ⟨mv, hmv⟩ : ∃ mv, mv = min va vb := ⟨_, rfl⟩
          rw [← hmv] at HSU
          have HMV := Lib.hid hmv
          clear hmv
          go_cut [9] from 28 to 60 (fun v wx => v = .int .i64 (mv : Int) ∧ Hid (Below w5.heap.size w5 wx))
          case first =>
            rcases Nat.lt_trichotomy va vb with hab | hab | hab
            · have hmm : Hid (mv = va) := by have := HMV.out; show mv = va; omega
              have n1 : (va : Int) < (vb : Int) := by omega
              have n2 : ¬ (vb : Int) < (va : Int) := by omega
              have n3 : ¬ vb < va := by omega
              go_region_held3 (fun W => W.cell? ⟨gx, 2, none⟩ = some (.int .i64 (cn : Int)) ∧ W.cell? ⟨gx, 3, none⟩ = some (.int .i64 (dn : Int)) ∧ W.cell? ⟨gl, cn, none⟩ = some (.int .i64 (va : Int)) ∧ W.cell? ⟨gl, dn, none⟩ = some (.int .i64 (vb : Int))) (go_keep) (fail)
              go_wp2
              go_meet
              case rel => exact ⟨by rw [hmm.out], Lib.hid (Below.drew (Below.refl _ _))⟩
            · subst hab
              have hmm : Hid (mv = va) := by have := HMV.out; show mv = va; omega
              go_region_held3 (fun W => W.cell? ⟨gx, 2, none⟩ = some (.int .i64 (cn : Int)) ∧ W.cell? ⟨gx, 3, none⟩ = some (.int .i64 (dn : Int)) ∧ W.cell? ⟨gl, cn, none⟩ = some (.int .i64 (va : Int)) ∧ W.cell? ⟨gl, dn, none⟩ = some (.int .i64 (va : Int))) (go_keep) (fail)
              go_wp2
              go_meet
              case rel => exact ⟨by rw [hmm.out]; try simp, Lib.hid (Below.drew (Below.refl _ _))⟩
            · have hmm : Hid (mv = vb) := by have := HMV.out; show mv = vb; omega
              have n1 : (vb : Int) < (va : Int) := by omega
              have n2 : ¬ (va : Int) < (vb : Int) := by omega
              have n3 : ¬ va < vb := by omega
              go_region_held3 (fun W => W.cell? ⟨gx, 2, none⟩ = some (.int .i64 (cn : Int)) ∧ W.cell? ⟨gx, 3, none⟩ = some (.int .i64 (dn : Int)) ∧ W.cell? ⟨gl, cn, none⟩ = some (.int .i64 (va : Int)) ∧ W.cell? ⟨gl, dn, none⟩ = some (.int .i64 (vb : Int))) (go_keep) (fail)
              go_wp2
              go_meet
              case rel => exact ⟨by rw [hmm.out], Lib.hid (Below.drew (Below.refl _ _))⟩
          case rest =>
            obtain ⟨rfl, HB6⟩ := hcut
            have HL6 := Lib.hid (own_below HL5.out HB6.out)
            have HC6 := Lib.hid (HC5.out.below HB6.out HC5.out.lt)
            have HX6 := HX5.out.below HB6.out HX5.out.lt
            have B6 := bvia B5 HB6.out
            have m2 : wc.cell? ⟨gx, 2, none⟩ = some (.int .i64 (cn : Int)) := HX6.cell 2
            have m3 : wc.cell? ⟨gx, 3, none⟩ = some (.int .i64 (dn : Int)) := HX6.cell 3
            have p0 := (HB6.out.cell (p := ⟨gl, cn, none⟩) ql).trans s0
            have p1 := (HB6.out.cell (p := ⟨gl, dn, none⟩) ql).trans s1
            have f0 := HL6.out.frozenAt cn
            have f1 := HL6.out.frozenAt dn
            have qx6 := HX6.lt
            have ql6 := (HL6.out.lt gl rfl).2
            have nz1 : gl ≠ gx := by omega
            have nz2 : gx ≠ gl := by omega
            have nz3 : dn ≠ cn := Ne.symm hne
            clear k2 k3 qx ql s0 s1 HL5 HC5 HX5 B5 HB6 HX6
            go_upto_region 13 with (fail)
            go_region_held3 (fun W => W.cell? ⟨gx, 2, none⟩ = some (.int .i64 (cn : Int)) ∧ W.cell? ⟨gx, 3, none⟩ = some (.int .i64 (dn : Int))) (go_keep) (fail)
            have hL9 := ((HL6.out.stored cn (vInt (mv : Int))).1.stored dn (vInt (mv : Int))).1
            rw [← List.map_set, ← List.map_set, ← HSU.out] at hL9
            have hBB := (But.set gl wc cn (vInt (mv : Int))).trans (But.set gl _ dn (vInt (mv : Int)))
            have hC9 := hBB.has HC6.out (by omega)
            have hB9 := B6.trans (hBB.below (show w.heap.size ≤ gl by omega) (by have := HC6.out.lt; omega))
            have HL9 := Lib.hid hL9
            have HC9 := Lib.hid hC9
            have HB9 := Lib.hid hB9
            clear hL9 hC9 hB9 hBB m2 m3 p0 p1 f0 f1
            go_wp2
            go_roundw
            case rel => exact ⟨j + 1, by omega, by go_num, Lib.hid (by first | exact HL9.out | exact own_below HL9.out (Below.drew (Below.refl _ _))), Lib.hid (by first | exact HC9.out | exact HC9.out.drew), by first | exact HB9.out | exact HB9.out.drew⟩
            case measure => first | (simp [intOf]; done) | (simp [intOf]; omega)
        · obtain rfl : n = j := by omega
          go_wp2
          go_roundw
          case rel => exact ⟨r + 1, by omega, by go_num, by
            have e : labN17 xs T (r + 1) = labR xs (labN17 xs T r) n := by rw [← HL.out]; rfl
            rw [e]; exact HLr, HC, hb⟩
          case measure => first | (simp [intOf]; done) | (simp [intOf]; omega)
    · obtain rfl : T = r := by omega
      have HLA : Hid (∀ i, i < T → (labN17 xs T T)[i]? = some ((repTo xs xs.length i : Nat) : Int)) := lab_all HTH.out
      have hsz := HC.out.lt
      have HRO : Hid (RowsO wo (w.heap.size + 1) wo.heap.size (.slice none 0 0) 0 [] (setsTo xs T 0)) := ⟨World.ownsRow_nil _ _ _ _, rfl, rfl, fun q u s hu => by simp at hu, Nat.le_refl _⟩
      go_wp2
      go_loopw [10, 11] (fun v i wr => ∃ (k : Nat) (X : Option Addr) (m' cx hi : Nat) (Us : List Value), k ≤ T ∧ i = .int .i64 (k : Int) ∧ v = .slice X m' cx ∧ m' ≤ k ∧ w.heap.size + 1 ≤ hi ∧ gl < hi ∧ Hid (RowsO wr (w.heap.size + 1) hi (.slice X m' cx) m' Us (setsTo xs T k)) ∧ Hid (wr.ownsRow (w.heap.size + 1) 3 1 (.slice (some ⟨gl, 0, none⟩) T cl) T ((labN17 xs T T).map vInt)) ∧ Hid (Has wr w.heap.size 30 [.int .i64 (T : Int), .slice A n c, .slice B m d]) ∧ Below w.heap.size w wr) (fun _ i _ => T - (intOf i).toNat)
      case atStart => exact ⟨0, none, 0, 0, wo.heap.size, [], Nat.zero_le _, rfl, rfl, Nat.le_refl _, hsz, (HLr.out.lt gl rfl).2, HRO, HLr, HC, hb⟩
      case round =>
        clear HRO HLr HC hb a0 q hsz
        obtain ⟨k, X, m', cx, hi, Us, hk, rfl, rfl, hmk, hhi, hgh, HRO, HLr, HC, hb⟩ := hrel
        obtain ⟨wo, rfl⟩ : ∃ wo : World, wo = wr := ⟨_, rfl⟩
        have a0 : wo.cell? ⟨w.heap.size, 0, none⟩ = some (.int .i64 (T : Int)) := HC.out.cell 0
        have q := HC.out.lt
        by_cases hkT : k < T
        · have kT : (k : Int) < (T : Int) := by omega
          go_wp2
          go_loopw [12, 13] (fun v i wr => ∃ (j : Nat) (Y : Option Addr) (ny cy : Nat), j ≤ T ∧ i = .int .i64 (j : Int) ∧ v = .slice Y ny cy ∧ Hid ((grpI xs k j).length = ny) ∧ ny ≤ 48 ∧ Hid (wr.ownsRow hi 3 1 (.slice Y ny cy) ny ((grpI xs k j).map vInt)) ∧ Hid (RowsO wr (w.heap.size + 1) hi (.slice X m' cx) m' Us (setsTo xs T k)) ∧ Hid (wr.ownsRow (w.heap.size + 1) 3 1 (.slice (some ⟨gl, 0, none⟩) T cl) T ((labN17 xs T T).map vInt)) ∧ Hid (Has wr w.heap.size 30 [.int .i64 (T : Int), .slice A n c, .slice B m d]) ∧ Below w.heap.size w wr) (fun _ i _ => T - (intOf i).toNat)
          case atStart => exact ⟨0, none, 0, 0, Nat.zero_le _, rfl, rfl, Lib.hid rfl, by omega, Lib.hid (World.ownsRow_nil _ _ _ _), HRO, HLr, HC, hb⟩
          case round =>
            clear HRO HLr HC hb a0 q
            obtain ⟨j, Y, ny, cy, hj, rfl, rfl, HNY, hny, HY, HRO, HLr, HC, hb⟩ := hrel
            obtain ⟨wo, rfl⟩ : ∃ wo : World, wo = wr := ⟨_, rfl⟩
            have a0 : wo.cell? ⟨w.heap.size, 0, none⟩ = some (.int .i64 (T : Int)) := HC.out.cell 0
            have q := HC.out.lt
            have htop := HRO.out.top
            by_cases hjT : j < T
            · have jT : (j : Int) < (T : Int) := by omega
              have l0 : wo.cell? ⟨gl, j, none⟩ = some (.int .i64 ((repTo xs xs.length j : Nat) : Int)) := (HLr.out.cellAt j (by omega)).trans (by rw [List.getElem?_map, HLA.out j hjT]; rfl)
              have ql := (HLr.out.lt gl rfl).2
              have HGS := Lib.hid (grpI_succ xs k j)
              obtain ⟨rj, hrj⟩ : ∃ rj, rj = repTo xs xs.length j := ⟨_, rfl⟩
              rw [← hrj] at l0 HGS
              clear hrj
              by_cases hrk : rj = k
              · have d1 : ((rj : Int) == (k : Int)) = true := by rw [hrk]; simp
                have HRK := Lib.hid hrk
                have hny2 : ny ≤ j := by rw [← HNY.out]; exact grpI_len xs k j
                have HY7 := Lib.hid (HY.out.alloc (.cells #[.int .i64 (j : Int)] 3))
                have HRO7 := Lib.hid (HRO.out.below ((Below.refl _ wo).alloc (Nat.le_refl _) (.cells #[.int .i64 (j : Int)] 3)))
                have HL7 := Lib.hid (HLr.out.alloc (.cells #[.int .i64 (j : Int)] 3))
                have HC7 := Lib.hid (HC.out.alloc (.cells #[.int .i64 (j : Int)] 3))
                clear hrk
                go_wp2_with (first | (at_builtin; refine wpList_app rfl (.tmp 79) (.tmp 81) _ rfl hi 3 (.int .i64 0) 1 8 Try.underlying35 infoInt rfl (by omega) (by omega) _ _ _ rfl HY7.out wo.heap.size [vInt (j : Int)] rfl rfl (news_new _ _ _) (one_int _ _) (by omega) (by simp; omega) ?_; intro gb cap1 w7 hg1 hown1 hgrow1 hor1) | fail)
                go_roundw
                case rel =>
                  have hL8 := HL7.out.kept hgrow1 (.inr (fun e => by have := (HY7.out.lt gl e.symm).1; omega))
                  exact ⟨j + 1, some ⟨gb, 0, none⟩, ny + 1, cap1, by omega, by go_num, rfl, Lib.hid (by rw [HGS.out, if_pos HRK.out, List.length_append, HNY.out]; rfl), by omega, Lib.hid (by rw [HGS.out, if_pos HRK.out, List.map_append]; exact hown1), Lib.hid (HRO7.out.grow HY7.out hgrow1), Lib.hid hL8, Lib.hid (HC7.out.same (hgrow1.block _ HC7.out.lt (fun e => by have := (HY7.out.lt _ e.symm).1; omega))), (hb.alloc (by omega) _).grown hgrow1 (by simp; omega) (fun b hb' => by have := (HY7.out.lt b hb').1; omega)⟩
                case measure => first | (simp [intOf]; done) | (simp [intOf]; omega)
              · have d1 : ((rj : Int) == (k : Int)) = false := by rw [beq_eq_false_iff_ne]; omega
                have HRK := Lib.hid hrk
                clear hrk
                go_wp2
                go_roundw
                case rel => exact ⟨j + 1, Y, ny, cy, by omega, by go_num, rfl, Lib.hid (by rw [HGS.out, if_neg HRK.out, List.append_nil]; exact HNY.out), hny, Lib.hid (by rw [HGS.out, if_neg HRK.out, List.append_nil]; exact HY.out), HRO, HLr, HC, hb⟩
                case measure => first | (simp [intOf]; done) | (simp [intOf]; omega)
            · obtain rfl : T = j := by omega
              have HSS := Lib.hid (setsTo_succ xs T k)
              by_cases h0 : ny = 0
              · subst h0
                have HEM : Hid ((grpI xs k T).isEmpty = true) := by show _ = true; rw [List.isEmpty_iff_length_eq_zero]; exact HNY.out
                have d1 : decide ((0 : Int) < ((0 : Nat) : Int)) = false := by decide
                go_wp2
                go_roundw
                case rel => exact ⟨k + 1, X, m', cx, hi, Us, by omega, by go_num, rfl, by omega, hhi, hgh, Lib.hid (by rw [HSS.out, if_pos HEM.out, List.append_nil]; exact HRO.out), HLr, HC, hb⟩
                case measure => first | (simp [intOf]; done) | (simp [intOf]; omega)
              · have HEM : Hid (¬ (grpI xs k T).isEmpty = true) := by
                  show ¬ _
                  rw [List.isEmpty_iff_length_eq_zero, HNY.out]; exact h0
                have d1 : decide ((0 : Int) < (ny : Int)) = true := decide_eq_true (by omega)
                have d2 : 0 < ny := by omega
                have HRO7 := Lib.hid (HRO.out.below ((Below.refl _ wo).alloc (Nat.le_refl _) (.cells #[.slice Y ny cy] 35)))
                have HY7 := Lib.hid (HY.out.alloc (.cells #[.slice Y ny cy] 35))
                have HL7 := Lib.hid (HLr.out.alloc (.cells #[.slice Y ny cy] 35))
                have HC7 := Lib.hid (HC.out.alloc (.cells #[.slice Y ny cy] 35))
                clear h0
                go_wp2_with (first | (at_builtin; refine wpList_app rfl (.tmp 86) (.tmp 88) _ rfl (w.heap.size + 1) 35 (.slice none 0 0) 1 24 Try.underlying66 infoIs rfl (by omega) (by omega) _ _ _ rfl HRO7.out.out wo.heap.size [.slice Y ny cy] rfl rfl (news_new _ _ _) (one_sl _ rfl) (by omega) (by simp; omega) ?_; intro gb cap1 w7 hg1 hown1 hgrow1 hor1) | fail)
                go_roundw
                case rel =>
                  have hr : (grpI xs k T).length = ny := HNY.out
                  have hp := HRO7.out.push hhi (r := grpI xs k T) (by rw [hr]; exact HY7.out) hown1 hgrow1
                  have hL8 := kept_of HL7.out HRO7.out.out (by decide) hgrow1
                  exact ⟨k + 1, some ⟨gb, 0, none⟩, m' + 1, cap1, w7.heap.size, Us ++ [.slice Y ny cy], by omega, by go_num, rfl, by omega, by have := hgrow1.size; simp at this; omega, (hL8.lt gl rfl).2, Lib.hid (by rw [HSS.out, if_neg HEM.out]; exact hp), Lib.hid hL8, Lib.hid (HC7.out.same (hgrow1.block _ HC7.out.lt (fun e => by have := (HRO7.out.out.lt _ e.symm).1; omega))), (hb.alloc (by omega) _).grown hgrow1 (by simp; omega) (fun b hb' => by have := (HRO7.out.out.lt b hb').1; omega)⟩
                case measure => first | (simp [intOf]; done) | (simp [intOf]; omega)
        · obtain rfl : T = k := by omega
          go_wp2
          go_ret2
          refine ⟨X, m', cx, rfl, ?_, ?_, hb⟩
          · rw [← setsTo_all]; exact HRO.out.read
          · rw [← setsTo_all, ← HRO.out.len, HRO.out.m]
end Go.Proofs.Ytpljaoagiaijiaa
