/-
  Contracts of chapter 21: Same of both packages.
-/
import Derived.Test.YtnijfkidgndbdaaPla
namespace Go.Proofs.Ytnijfkidgndbdaa
open Go.RowKit
/-- the first place before the k-th at which two lists differ -/
def diffTo (x y : List Int) : Nat → Option Nat
  | 0 => none
  | k + 1 => (diffTo x y k).or (if x[k]? = y[k]? then none else some k)
theorem diffTo_none {x y : List Int} : ∀ {k : Nat}, (∀ j, j < k → x[j]? = y[j]?) → diffTo x y k = none
  | 0, _ => rfl
  | k + 1, h => by
    unfold diffTo
    rw [diffTo_none (fun j hj => h j (by omega)), if_pos (h k (by omega))]; rfl
theorem diffTo_more {x y : List Int} {k i : Nat} (h : diffTo x y k = some i) : ∀ d, diffTo x y (k + d) = some i
  | 0 => h
  | d + 1 => by
    have e : diffTo x y (k + (d + 1)) = (diffTo x y (k + d)).or (if x[k + d]? = y[k + d]? then none else some (k + d)) := rfl
    rw [e, diffTo_more h d]; rfl
theorem diffTo_at {x y : List Int} {k n : Nat} (h : ∀ j, j < k → x[j]? = y[j]?) (hk : k < n) (hne : x[k]? ≠ y[k]?) : diffTo x y n = some k := by
  have e : diffTo x y (k + 1) = some k := by
    unfold diffTo
    rw [diffTo_none h, if_neg hne]; rfl
  have := diffTo_more e (n - (k + 1))
  rwa [show k + 1 + (n - (k + 1)) = n by omega] at this
def diffI (x y : List Int) (n : Nat) : Int := match diffTo x y n with
  | some k => k
  | none => -1
theorem diffI_none {x y : List Int} {n : Nat} (h : ∀ j, j < n → x[j]? = y[j]?) : diffI x y n = -1 := by unfold diffI; rw [diffTo_none h]
theorem diffI_at {x y : List Int} {k n : Nat} (h : ∀ j, j < k → x[j]? = y[j]?) (hk : k < n) (hne : x[k]? ≠ y[k]?) : diffI x y n = k := by unfold diffI; rw [diffTo_at h hk hne]
theorem eq_step {x y : List Int} {k : Nat} (h : ∀ j, j < k → x[j]? = y[j]?) (hk : x[k]? = y[k]?) : ∀ j, j < k + 1 → x[j]? = y[j]? := fun j hj => by
  by_cases h' : j < k
  · exact h j h'
  · obtain rfl : j = k := by omega
    exact hk
def sameE (t : Int) (xs ps : List Q4) (D E : List Int) : Int := if chkE t xs ps D = 0 then chkE t xs ps E else chkE t xs ps D
def sameV (t : Int) (xs ps : List Q4) (D E : List Int) : Int := if sameE t xs ps D E = 0 then diffI (overL xs D) (overL xs E) xs.length else 0
set_option maxRecDepth 100000 in
set_option maxHeartbeats 2000000 in
theorem same30 (t : Int) (A B D E : Option Addr) (n c m d k e k2 e2 : Nat) (xs ps : List Q4) (ds es : List Int) (w : World) (hn : n ≤ 9223372036854775807) (hm : m ≤ 9223372036854775807) (hk : k ≤ 9223372036854775807) (hk2 : k2 ≤ 9223372036854775807) (hx : RdQ w w.heap.size A xs) (hp : RdQ w w.heap.size B ps) (hd : RdI w w.heap.size D ds) (he : RdI w w.heap.size E es)
    (hl : xs.length = n) (hl' : ps.length = m) (hlk : ds.length = k) (hle : es.length = k2) (ht0 : -9223372036854775808 ≤ t) :
    Calls Try.prog 30 #[vCloth t A n c B m d, .slice D k e, .slice E k2 e2] w fun e w' => e = .returned (.tuple #[.int .i64 (sameV t xs ps ds es), .int .i64 (sameE t xs ps ds es)]) ∧ Below w.heap.size w w' := by
  have C1 := Lib.hid (fun (W : World) (hb : Below w.heap.size w W) => seen15 t A B D n c m d k e xs ps ds W hn hm hk (hx.up hb) (hp.up hb) (hd.up hb) hl hl' hlk ht0)
  have C2 := Lib.hid (fun (W : World) (hb : Below w.heap.size w W) => seen15 t A B E n c m d k2 e2 xs ps es W hn hm hk2 (hx.up hb) (hp.up hb) (he.up hb) hl hl' hle ht0)
  clear hx hp hd he
  have K0 : Has (w.alloc (.cells #[.int .i64 t, .slice A n c, .slice B m d] 25)) w.heap.size 25 [.int .i64 t, .slice A n c, .slice B m d] := Has.new rfl
  by_cases hE : chkE t xs ps ds = 0
  · have e1 : sameE t xs ps ds es = chkE t xs ps es := by unfold sameE; rw [if_pos hE]
    have hR1 : seenR t xs ps ds = overL xs ds := by unfold seenR; rw [if_pos hE]
    rw [hR1, hE] at C1
    by_cases hF : chkE t xs ps es = 0
    · have hR2 : seenR t xs ps es = overL xs es := by unfold seenR; rw [if_pos hF]
      have hV : sameV t xs ps ds es = diffI (overL xs ds) (overL xs es) n := by unfold sameV; rw [e1, if_pos hF, hl]
      have hn2 : n ≤ 20000 := by have := (ckE_ok (chkE_ok hE).1).2.2.1; rw [hl] at this; exact this
      rw [hR2, hF] at C2
      rw [hV, e1, hF]
      have LA : Hid ((overL xs ds).length = n) := by show _ = n; unfold overL; rw [List.length_map, hl]
      have LB : Hid ((overL xs es).length = n) := by show _ = n; unfold overL; rw [List.length_map, hl]
      clear hE hF hR1 hR2 hV e1 hl
      generalize overL xs ds = la at *
      generalize overL xs es = lb at *
      go_enter Try.func30, Try.ntmps30
      go_wp2_with fail
      refine (C1.out _ (by go_grown)).mono ?_
      rintro e w1 ⟨A1, n1, c1, rfl, r1, l1, k1, k1', hb1⟩
      obtain rfl : n1 = n := by rw [← l1]; exact LA.out
      have B1 := bvia (show Below w.heap.size w _ by go_grown) hb1
      have HC := Lib.hid (K0.below hb1 K0.lt)
      have a0 : w1.cell? ⟨w.heap.size, 0, none⟩ = some (.int .i64 t) := HC.out.cell 0
      have a1 : w1.cell? ⟨w.heap.size, 1, none⟩ = some (.slice A n1 c) := HC.out.cell 1
      have a2 : w1.cell? ⟨w.heap.size, 2, none⟩ = some (.slice B m d) := HC.out.cell 2
      have q := HC.out.lt
      have R1 := Lib.hid r1; clear r1
      clear K0 hb1 C1 l1
      go_wp2_with fail
      refine (C2.out _ B1).mono ?_
      rintro e w2 ⟨A2, n2, c2, rfl, r2, l2, k2, k2', hb2⟩
      obtain rfl : n2 = n1 := by rw [← l2]; exact LB.out
      have B2 := bvia B1 hb2
      have R1' := Lib.hid (R1.out.up hb2)
      have R2 := Lib.hid r2; clear r2
      clear a0 a1 a2 q HC R1 hb2 C2 l2 B1
      go_wp2
      go_loopw [11] (fun i wr => ∃ j : Nat, j ≤ n2 ∧ i = .int .i64 (j : Int) ∧ Hid (∀ p, p < j → la[p]? = lb[p]?) ∧ Below w2.heap.size w2 wr) (fun i _ => n2 - (intOf i).toNat)
      case atStart => exact ⟨0, Nat.zero_le _, rfl, Lib.hid (show ∀ p, p < 0 → la[p]? = lb[p]? from fun p hp => absurd hp (by omega)), Below.refl _ _⟩
      case round =>
        obtain ⟨j, hj, rfl, HEQ, hb⟩ := hrel
        obtain ⟨wo, rfl⟩ : ∃ wo : World, wo = wr := ⟨_, rfl⟩
        have hz := hb.size
        by_cases hlt : j < n2
        · obtain ⟨x, hx⟩ := get_of_lt (l := la) (k := j) (by rw [LA.out]; exact hlt)
          obtain ⟨y, hy⟩ := get_of_lt (l := lb) (k := j) (by rw [LB.out]; exact hlt)
          obtain ⟨ba, oa, rfl, hba, c0⟩ := R1'.out _ x hx
          obtain ⟨bb, ob, rfl, hbb, c1⟩ := R2.out _ y hy
          have e0 := (hb.cell (p := ⟨ba, oa + j, none⟩) hba).trans c0
          have e1 := (hb.cell (p := ⟨bb, ob + j, none⟩) hbb).trans c1
          have z0 : ba < wo.heap.size := by omega
          have z1 : bb < wo.heap.size := by omega
          have HX := Lib.hid hx; have HY := Lib.hid hy; clear hx hy c0 c1
          by_cases he : x = y
          · have hed : (x != y) = false := by simpa using he
            have HS := Lib.hid (eq_step HEQ.out (by rw [HX.out, HY.out, he]))
            clear he
            go_wp2
            have hxc := fun (x : Ext wo) => x.cell
            refine wp_region_ext (by kernel_rfl) (by kernel_rfl) ?_
            repeat (go_big_quiet_step (fail))
            refine wpQuiet_nil ?_
            intro w6 hw'
            have hb6 := ext_below hw'; clear hw' hxc
            have B6 := hb.trans (hb6.mono hz)
            clear hb6
            go_wp2
            go_roundw
            case rel => exact ⟨j + 1, by omega, by go_num, HS, B6⟩
            case measure => first | (simp [intOf]; done) | (simp [intOf]; omega)
          · have hed : (x != y) = true := by simpa using he
            have HV : Hid (diffI la lb n2 = (j : Int)) := diffI_at HEQ.out hlt (by rw [HX.out, HY.out]; intro h; exact he (by injection h))
            clear he
            go_wp2
            have hxc := fun (x : Ext wo) => x.cell
            refine wp_region_ext (by kernel_rfl) (by kernel_rfl) ?_
            repeat (go_big_quiet_step (fail))
            refine wpQuiet_nil ?_
            intro w6 hw'
            have hb6 := ext_below hw'; clear hw' hxc
            have B6 := hb.trans (hb6.mono hz)
            clear hb6
            go_wp2
            go_ret2
            exact ⟨by rw [HV.out]; rfl, bvia B2 B6⟩
        · obtain rfl : j = n2 := by omega
          have HV : Hid (diffI la lb j = -1) := diffI_none HEQ.out
          go_wp2
          go_ret2
          exact ⟨by rw [HV.out]; rfl, bvia B2 hb⟩
    · have hR2 : seenR t xs ps es = [] := by unfold seenR; rw [if_neg hF]
      have hV : sameV t xs ps ds es = 0 := by unfold sameV; rw [e1, if_neg hF]
      rw [hR2] at C2
      rw [hV, e1]
      generalize chkE t xs ps es = r at *
      have hr : (r != 0) = true := by simpa using hF
      clear hE hF hR1 hR2 hV e1
      go_enter Try.func30, Try.ntmps30
      go_wp2_with fail
      refine (C1.out _ (by go_grown)).mono ?_
      rintro e w1 ⟨A1, n1, c1, rfl, r1, l1, k1, k1', hb1⟩
      have B1 := bvia (show Below w.heap.size w _ by go_grown) hb1
      have HC := Lib.hid (K0.below hb1 K0.lt)
      have a0 : w1.cell? ⟨w.heap.size, 0, none⟩ = some (.int .i64 t) := HC.out.cell 0
      have a1 : w1.cell? ⟨w.heap.size, 1, none⟩ = some (.slice A n c) := HC.out.cell 1
      have a2 : w1.cell? ⟨w.heap.size, 2, none⟩ = some (.slice B m d) := HC.out.cell 2
      have q := HC.out.lt
      clear K0 hb1 C1 r1
      go_wp2_with fail
      refine (C2.out _ B1).mono ?_
      rintro e w2 ⟨A2, n2, c2, rfl, r2, l2, k2, k2', hb2⟩
      clear r2
      go_wp2
      go_ret2
      exact ⟨rfl, bvia B1 hb2⟩
  · have e1 : sameE t xs ps ds es = chkE t xs ps ds := by unfold sameE; rw [if_neg hE]
    have hV : sameV t xs ps ds es = 0 := by unfold sameV; rw [e1, if_neg hE]
    have hR1 : seenR t xs ps ds = [] := by unfold seenR; rw [if_neg hE]
    rw [hR1] at C1
    rw [hV, e1]
    generalize chkE t xs ps ds = r at *
    have hr : (r != 0) = true := by simpa using hE
    clear hE hR1 hV e1 C2
    go_enter Try.func30, Try.ntmps30
    go_wp2_with fail
    refine (C1.out _ (by go_grown)).mono ?_
    rintro e w1 ⟨A1, n1, c1, rfl, r1, l1, k1, k1', hb1⟩
    have B1 := bvia (show Below w.heap.size w _ by go_grown) hb1
    clear K0 hb1 r1
    go_wp2
    go_ret2
    exact ⟨rfl, B1⟩
set_option maxRecDepth 100000 in
theorem same53 (pa pb i : Nat) (D E : Option Addr) (k e k2 e2 : Nat) (va vb : Int) (x : Q4) (ds es : List Int) (w : World) (ha : w.cell? ⟨pa, 0, none⟩ = some (.slice D k e)) (hb : w.cell? ⟨pb, 0, none⟩ = some (.slice E k2 e2)) (hd : RdI w w.heap.size D ds) (he : RdI w w.heap.size E es) (hx : x.c = (i : Int)) (hva : ds[i]? = some va) (hvb : es[i]? = some vb) (h1 : ds.length = k) (h2 : es.length = k2) :
    Calls Try.prog 53 #[.agg #[.int .i64 x.a, .int .i64 x.b, .int .i64 x.c, .int .i64 x.d], .pointer (some ⟨pa, 0, none⟩), .pointer (some ⟨pb, 0, none⟩)] w fun e w' => e = .returned (.bool (va != vb)) ∧ Below w.heap.size w w' := by
  obtain ⟨ba, oa, rfl, hba, c0⟩ := hd i va hva
  obtain ⟨bb, ob, rfl, hbb, c1⟩ := he i vb hvb
  have q1 := lt_of_get hva
  have q2 := lt_of_get hvb
  rw [h1] at q1
  rw [h2] at q2
  have j0 : (0 : Int) ≤ (i : Int) := by omega
  have j1 : (i : Int) < (k : Int) := by omega
  have j2 : (i : Int) < (k2 : Int) := by omega
  have za : pa < w.heap.size := block_lt_of_cell ha
  have zb : pb < w.heap.size := block_lt_of_cell hb
  rw [hx]
  clear hd he hx hva hvb h1 h2
  go_enter Try.func53, Try.ntmps53
  go_wp2
  have x2 : (w.alloc (.cells #[.int .i64 x.a, .int .i64 x.b, .int .i64 (i : Int), .int .i64 x.d] 38)).cell? ⟨w.heap.size, 2, none⟩ = some (.int .i64 (i : Int)) := by go_simp
  have hBW : Below w.heap.size w (w.alloc (.cells #[.int .i64 x.a, .int .i64 x.b, .int .i64 (i : Int), .int .i64 x.d] 38)) := by go_grown
  have zx : w.heap.size < (w.alloc (.cells #[.int .i64 x.a, .int .i64 x.b, .int .i64 (i : Int), .int .i64 x.d] 38)).heap.size := by simp
  generalize (w.alloc (.cells #[.int .i64 x.a, .int .i64 x.b, .int .i64 (i : Int), .int .i64 x.d] 38)) = W1 at *
  have y0 := (hBW.cell (p := ⟨ba, oa + i, none⟩) hba).trans c0
  have y1 := (hBW.cell (p := ⟨bb, ob + i, none⟩) hbb).trans c1
  have y2 := (hBW.cell (p := ⟨pa, 0, none⟩) za).trans ha
  have y3 := (hBW.cell (p := ⟨pb, 0, none⟩) zb).trans hb
  have z0 : ba < W1.heap.size := by omega
  have z1 : bb < W1.heap.size := by omega
  have z2 : pa < W1.heap.size := by omega
  have z3 : pb < W1.heap.size := by omega
  clear c0 c1 ha hb
  have hxc := fun (x : Ext W1) => x.cell
  refine wp_region_ext (by kernel_rfl) (by kernel_rfl) ?_
  repeat (go_big_quiet_step (fail))
  refine wpQuiet_nil ?_
  intro w6 hw'
  have hb6 := ext_below hw'; clear hw' hxc
  go_wp2
  go_ret
  exact ⟨rfl, bvia hBW hb6⟩
set_option maxRecDepth 100000 in
set_option maxHeartbeats 2000000 in
theorem index52 (pa pb : Nat) (A D E : Option Addr) (n c k e k2 e2 : Nat) (xs : List Q4) (ds es : List Int) (w : World) (ha : w.cell? ⟨pa, 0, none⟩ = some (.slice D k e)) (hb : w.cell? ⟨pb, 0, none⟩ = some (.slice E k2 e2)) (hx : RdQ w w.heap.size A xs) (hd : RdI w w.heap.size D ds) (he : RdI w w.heap.size E es) (hl : xs.length = n) (hn : n ≤ 20000) (h1 : ds.length = k) (h2 : es.length = k2) (hr : ∀ x ∈ xs, 0 ≤ x.c ∧ x.c < (k : Int) ∧ x.c < (k2 : Int)) :
    Calls Try.prog 52 #[.slice A n c, .func (.func 53) #[] #[.pointer (some ⟨pa, 0, none⟩), .pointer (some ⟨pb, 0, none⟩)]] w fun e w' => e = .returned (.int .i64 (diffI (overL xs ds) (overL xs es) n)) ∧ Below w.heap.size w w' := by
  have HX := Lib.hid hx; clear hx
  have HL := Lib.hid hl; clear hl
  have HR := Lib.hid hr; clear hr
  have za : pa < w.heap.size := block_lt_of_cell ha
  have zb : pb < w.heap.size := block_lt_of_cell hb
  have HC := Lib.hid (fun (i : Nat) (x : Q4) (va vb : Int) (W : World) (hB : Below w.heap.size w W) (hi : x.c = (i : Int)) (hva : ds[i]? = some va) (hvb : es[i]? = some vb) => same53 pa pb i D E k e k2 e2 va vb x ds es W ((hB.cell za).trans ha) ((hB.cell zb).trans hb) (hd.up hB) (he.up hB) hi hva hvb h1 h2)
  have H1 := Lib.hid h1; have H2 := Lib.hid h2
  clear ha hb hd he h1 h2
  go_enter Try.func52, Try.ntmps52
  go_wp2
  go_loopw [8] (fun i wr => ∃ j : Nat, j ≤ n ∧ i = .int .i64 (j : Int) ∧ Hid (∀ p, p < j → (overL xs ds)[p]? = (overL xs es)[p]?) ∧ Below w.heap.size w wr) (fun i _ => n - (intOf i).toNat)
  case atStart => exact ⟨0, Nat.zero_le _, rfl, Lib.hid (show ∀ p, p < 0 → (overL xs ds)[p]? = (overL xs es)[p]? from fun p hp => absurd hp (by omega)), Below.refl _ _⟩
  case round =>
    obtain ⟨j, hj, rfl, HEQ, hb⟩ := hrel
    obtain ⟨wo, rfl⟩ : ∃ wo : World, wo = wr := ⟨_, rfl⟩
    by_cases hlt : j < n
    · obtain ⟨x, hx⟩ := get_of_lt (l := xs) (k := j) (by rw [HL.out]; exact hlt)
      obtain ⟨ba, o, rfl, hba, c0, c1, c2, c3⟩ := (HX.out.below (B' := w.heap.size) hb (Nat.le_refl _)) _ x hx
      obtain ⟨hr0, hr1, hr2⟩ := HR.out x (mem_of_get hx)
      obtain ⟨i, hi⟩ := Int.eq_ofNat_of_zero_le hr0
      obtain ⟨va, hva⟩ := get_of_lt (l := ds) (k := i) (by rw [H1.out]; omega)
      obtain ⟨vb, hvb⟩ := get_of_lt (l := es) (k := i) (by rw [H2.out]; omega)
      have CC := Lib.hid (HC.out i x va vb wo hb hi hva hvb)
      have o1 : (overL xs ds)[j]? = some va := by rw [overL_get hx, hi, show ((i : Nat) : Int).toNat = i by simp, List.getD_eq_getElem?_getD, hva]; rfl
      have o2 : (overL xs es)[j]? = some vb := by rw [overL_get hx, hi, show ((i : Nat) : Int).toNat = i by simp, List.getD_eq_getElem?_getD, hvb]; rfl
      have O1 := Lib.hid o1; have O2 := Lib.hid o2
      clear hx hi hva hvb o1 o2 hr0 hr1 hr2
      by_cases he : va = vb
      · have hed : (va != vb) = false := by simpa using he
        have HS := Lib.hid (eq_step HEQ.out (by rw [O1.out, O2.out, he]))
        rw [hed] at CC
        clear he hed
        go_wp2_with fail
        refine CC.out.mono ?_
        rintro e' w2 ⟨rfl, hb2⟩
        have B2 := bvia hb hb2
        go_wp2
        go_roundw
        case rel => exact ⟨j + 1, by omega, by go_num, HS, B2⟩
        case measure => first | (simp [intOf]; done) | (simp [intOf]; omega)
      · have hed : (va != vb) = true := by simpa using he
        have HV : Hid (diffI (overL xs ds) (overL xs es) n = (j : Int)) := diffI_at HEQ.out hlt (by rw [O1.out, O2.out]; intro h; exact he (by injection h))
        rw [hed] at CC
        clear he hed
        go_wp2_with fail
        refine CC.out.mono ?_
        rintro e' w2 ⟨rfl, hb2⟩
        have B2 := bvia hb hb2
        go_wp2
        go_ret
        exact ⟨ret_int HV.out.symm, B2⟩
    · obtain rfl : j = n := by omega
      have HV : Hid (diffI (overL xs ds) (overL xs es) j = -1) := diffI_none HEQ.out
      go_wp2
      go_ret
      exact ⟨ret_int HV.out.symm, hb⟩
end Go.Proofs.Ytnijfkidgndbdaa
