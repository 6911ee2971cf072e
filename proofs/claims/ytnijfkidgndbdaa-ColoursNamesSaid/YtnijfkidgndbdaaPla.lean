/-
  Contracts of chapter 21: Plain of both packages.
-/
import Derived.Test.YtnijfkidgndbdaaShn
namespace Go.Proofs.Ytnijfkidgndbdaa
open Go.RowKit
/-- the places before the k-th at which two lists agree -/
def eqTo (a b : List Int) : Nat → List Int
  | 0 => []
  | k + 1 => if a[k]? = b[k]? then eqTo a b k ++ [(k : Int)] else eqTo a b k
theorem eqTo_len (a b : List Int) : ∀ k, (eqTo a b k).length ≤ k
  | 0 => Nat.le_refl _
  | k + 1 => by
    have ih := eqTo_len a b k
    unfold eqTo
    split
    · rw [List.length_append]; simp; exact ih
    · omega
theorem eqTo_comm (a b : List Int) : ∀ k, eqTo a b k = eqTo b a k
  | 0 => rfl
  | k + 1 => by
    unfold eqTo
    rw [eqTo_comm a b k]
    by_cases h : a[k]? = b[k]?
    · rw [if_pos h, if_pos h.symm]
    · rw [if_neg h, if_neg (fun e => h e.symm)]
def plainR (t : Int) (xs ps : List Q4) (ds : List Int) : List Int := if chkE t xs ps ds = 0 then eqTo (overL xs ds) (underL xs ds) xs.length else []
theorem overL_get {xs : List Q4} {ds : List Int} {j : Nat} {x : Q4} (h : xs[j]? = some x) : (overL xs ds)[j]? = some (ds.getD x.c.toNat 0) := by unfold overL; rw [List.getElem?_map, h]; rfl
theorem underL_get {xs : List Q4} {ds : List Int} {j : Nat} {x : Q4} (h : xs[j]? = some x) : (underL xs ds)[j]? = some (ds.getD x.d.toNat 0) := by unfold underL; rw [List.getElem?_map, h]; rfl
set_option maxRecDepth 100000 in
theorem plainF50 (go base B0 j : Nat) (a b : List Int) (w0 W : World) (va vb : Int) (hgo : go < base) (hB : B0 ≤ go) (ha : a[j]? = some va) (hb : b[j]? = some vb) (hj : j ≤ 20000) (hI : Coll go base B0 (eqTo a b) w0 j W) :
    Calls Try.prog 50 #[.int .i64 (j : Int), .int .i64 va, .int .i64 vb, .pointer (some ⟨go, 0, none⟩)] W fun e W' => (∃ v, e = .returned v) ∧ Coll go base B0 (eqTo a b) w0 (j + 1) W' ∧ Below B0 W W' ∧ KeepsT W W' := by
  have hI0 := hI
  obtain ⟨⟨A, n, c, h1, h2, h3⟩, h4, h5⟩ := hI
  by_cases he : va = vb
  · have hed : (va == vb) = true := by simpa using he
    have c0 : W.cell? ⟨go, 0, none⟩ = some (.slice A n c) := h1.cell 0
    have q := h1.lt
    have HO := Lib.hid h3; clear h3
    have HH := Lib.hid h1; clear h1
    have hn : n ≤ 20000 := by have := eqTo_len a b j; omega
    have HS : Hid (eqTo a b (j + 1) = eqTo a b j ++ [(j : Int)]) := by
      show (if a[j]? = b[j]? then eqTo a b j ++ [(j : Int)] else eqTo a b j) = _
      rw [if_pos (by rw [ha, hb, he])]
    clear he ha hb hI0
    go_enter Try.func50, Try.ntmps50
    go_wp2_with (at_builtin; refine wpList_app rfl (.tmp 10) (.tmp 12) _ rfl base 3 (.int .i64 0) 1 8 Try.underlying26 infoInt rfl (by omega) (by omega) _ _ _ rfl (HO.out.alloc _) W.heap.size [vInt (j : Int)] rfl rfl (news_new _ _ _) (one_int _ _) (by omega) (by simp; omega) ?_)
    intro ga cap1 w2 hg1 hown1 hgrow1 hor1
    have hsz : (W.alloc (.cells #[.int .i64 (j : Int)] 3)).heap.size = W.heap.size + 1 := by simp
    have hh2 := (HH.out.alloc (.cells #[.int .i64 (j : Int)] 3)).same (hgrow1.block go (by omega) (fun e => (HH.out.alloc (.cells #[.int .i64 (j : Int)] 3)).ne_own (HO.out.alloc _) (by decide) e.symm))
    have c2 := hh2.cell 0
    have f2 := hh2.free 0
    have q2 := hh2.lt
    have HH2 := Lib.hid hh2
    clear hh2
    go_wp2
    go_end0
    have hs1 : base ≤ w2.heap.size := by have h := hgrow1.size; simp at h; omega
    have b2 : Below B0 W w2 := ((Below.refl B0 W).alloc (by omega) _).grown hgrow1 (by simp; omega) (fun k hk => by have := (HO.out.lt k hk).1; omega)
    refine ⟨⟨_, rfl⟩, ⟨⟨some ⟨ga, 0, none⟩, n + 1, cap1, HH2.out.set 0 _, ?_, ?_⟩, by simpa [World.setCell] using hs1, (h5.trans b2).setCell hB _⟩, b2.setCell hB _, ?_⟩
    · rw [HS.out, List.length_append, h2]; rfl
    · rw [HS.out]
      refine ownsRow_setCell_below ?_ (by simpa using hgo) _
      simpa using hown1
    · exact keepsT_put HH2.out (by decide) (by decide) _ 0 ((keepsT_alloc W _).trans (keepsT_grown (HO.out.alloc _) (by decide) (by decide) hgrow1))
  · have hed : (va == vb) = false := by simpa using he
    have HS : Hid (eqTo a b (j + 1) = eqTo a b j) := by
      show (if a[j]? = b[j]? then eqTo a b j ++ [(j : Int)] else eqTo a b j) = _
      rw [if_neg (by rw [ha, hb]; intro h; exact he (by injection h))]
    clear he ha hb hI0
    go_enter Try.func50, Try.ntmps50
    go_wp2
    go_end0
    exact ⟨⟨_, rfl⟩, ⟨⟨A, n, c, h1, by rw [HS.out, h2], by rw [HS.out]; exact h3⟩, h4, h5⟩, Below.refl _ _, fun _ _ _ _ h => h⟩
set_option maxRecDepth 100000 in
set_option maxHeartbeats 1000000 in
theorem plain25 (t : Int) (A B D : Option Addr) (n c m d k e : Nat) (xs ps : List Q4) (ds : List Int) (w : World) (hn : n ≤ 9223372036854775807) (hm : m ≤ 9223372036854775807) (hk : k ≤ 9223372036854775807) (hx : RdQ w w.heap.size A xs) (hp : RdQ w w.heap.size B ps) (hd : RdI w w.heap.size D ds)
    (hl : xs.length = n) (hl' : ps.length = m) (hlk : ds.length = k) (ht0 : -9223372036854775808 ≤ t) :
    Calls Try.prog 25 #[vCloth t A n c B m d, .slice D k e] w (RetIE (plainR t xs ps ds) (chkE t xs ps ds) w) := by
  have HL := Lib.hid hl
  have hf : Coll (w.heap.size + 1) (w.heap.size + 2) w.heap.size (eqTo (overL xs ds) (underL xs ds)) w 0 ((w.alloc (.cells #[.int .i64 t, .slice A n c, .slice B m d] 25)).alloc (.cells #[.slice none 0 0] 26)) :=
    ⟨⟨none, 0, 0, Has.new2 rfl, rfl, World.ownsRow_nil _ _ _ _⟩, by simp, by go_grown⟩
  have hsz : w.heap.size ≤ ((w.alloc (.cells #[.int .i64 t, .slice A n c, .slice B m d] 25)).alloc (.cells #[.slice none 0 0] 26)).heap.size := by simp; omega
  have C := Lib.hid (asked40 (Coll (w.heap.size + 1) (w.heap.size + 2) w.heap.size (eqTo (overL xs ds) (underL xs ds)) w) 50 #[.pointer (some ⟨w.heap.size + 1, 0, none⟩)] t A B D n c m d k e w.heap.size xs ps ds ((w.alloc (.cells #[.int .i64 t, .slice A n c, .slice B m d] 25)).alloc (.cells #[.slice none 0 0] 26))
    Try.call50 hsz hn hm hk (hx.below (by go_grown) (Nat.le_refl _)) (hp.below (by go_grown) (Nat.le_refl _)) (hd.below (by go_grown) (Nat.le_refl _)) hl hl' hlk ht0 hf (fun j W W' h1 h2 => h1.mono (by omega) h2)
    (fun h0 j x W hx hI => plainF50 _ _ _ j _ _ w W _ _ (by omega) (by omega) (overL_get hx) (underL_get hx) (by have := lt_of_get hx; have := (ckE_ok (chkE_ok h0).1).2.2.1; omega) hI))
  clear hx hp hd hsz hf
  go_enter Try.func25, Try.ntmps25
  go_wp2_with fail
  refine C.out.mono ?_
  rintro e w1 ⟨rfl, hb1, hz, hnz⟩
  have HI : Hid (Coll (w.heap.size + 1) (w.heap.size + 2) w.heap.size (fun _ => plainR t xs ps ds) w 0 w1) := by
    by_cases hE : chkE t xs ps ds = 0
    · obtain ⟨⟨A', n', c', h1, h2, h3⟩, h4, h5⟩ := hz hE
      have hR : plainR t xs ps ds = eqTo (overL xs ds) (underL xs ds) n := by unfold plainR; rw [if_pos hE, HL.out]
      rw [hR]
      exact ⟨⟨A', n', c', h1, h2, h3⟩, h4, h5⟩
    · obtain ⟨⟨A', n', c', h1, h2, h3⟩, h4, h5⟩ := hnz hE
      have hR : plainR t xs ps ds = [] := by unfold plainR; rw [if_neg hE]
      rw [hR]
      exact ⟨⟨A', n', c', h1, h2, h3⟩, h4, h5⟩
  clear hz hnz C
  obtain ⟨⟨A', n', c', h1, h2, h3⟩, h4, h5⟩ := HI.out
  clear HI
  have c0 : w1.cell? ⟨w.heap.size + 1, 0, none⟩ = some (.slice A' n' c') := h1.cell 0
  have f0 := h1.free 0
  have H1 := Lib.hid h1; clear h1
  have H3 := Lib.hid h3; clear h3
  have hcc := own_caps H3.out
  go_wp2
  refine post_one_tmp (H1.out.set 0 (.slice A' n' c')) rfl rfl rfl rfl Try.isAgg26 ?_
  exact ⟨A', n', c', rfl, own_rd1 (ownsRow_setCell_below H3.out (by simp) _), h2, hcc.1, hcc.2, h5.setCell (by simp) _⟩
set_option maxRecDepth 100000 in
set_option maxHeartbeats 2000000 in
theorem plain26 (t : Int) (A B D : Option Addr) (n c m d k e : Nat) (xs ps : List Q4) (ds : List Int) (w : World) (hn : n ≤ 9223372036854775807) (hm : m ≤ 9223372036854775807) (hk : k ≤ 9223372036854775807) (hx : RdQ w w.heap.size A xs) (hp : RdQ w w.heap.size B ps) (hd : RdI w w.heap.size D ds)
    (hl : xs.length = n) (hl' : ps.length = m) (hlk : ds.length = k) (ht0 : -9223372036854775808 ≤ t) :
    Calls Try.prog 26 #[vCloth t A n c B m d, .slice D k e] w (RetIE (plainR t xs ps ds) (chkE t xs ps ds) w) := by
  have C1 := Lib.hid (fun (W : World) (hb : Below w.heap.size w W) => seen15 t A B D n c m d k e xs ps ds W hn hm hk (hx.up hb) (hp.up hb) (hd.up hb) hl hl' hlk ht0)
  have C2 := Lib.hid (fun (W : World) (hb : Below w.heap.size w W) => back20 t A B D n c m d k e xs ps ds W hn hm hk (hx.up hb) (hp.up hb) (hd.up hb) hl hl' hlk ht0)
  clear hx hp hd
  have HL := Lib.hid hl; clear hl
  have K0 : Has (w.alloc (.cells #[.int .i64 t, .slice A n c, .slice B m d] 25)) w.heap.size 25 [.int .i64 t, .slice A n c, .slice B m d] := Has.new rfl
  by_cases hE : chkE t xs ps ds = 0
  · have hn2 : n ≤ 20000 := by have := (ckE_ok (chkE_ok hE).1).2.2.1; rw [HL.out] at this; exact this
    have hR1 : seenR t xs ps ds = overL xs ds := by unfold seenR; rw [if_pos hE]
    have hR2 : backR t xs ps ds = underL xs ds := by unfold backR; rw [if_pos hE]
    have hR3 : plainR t xs ps ds = eqTo (overL xs ds) (underL xs ds) n := by unfold plainR; rw [if_pos hE, HL.out]
    rw [hR1, hE] at C1
    rw [hR2, hE] at C2
    rw [hR3, hE]
    clear hE hR1 hR2 hR3
    have LA : Hid ((overL xs ds).length = n) := by show _ = n; unfold overL; rw [List.length_map, HL.out]
    have LB : Hid ((underL xs ds).length = n) := by show _ = n; unfold underL; rw [List.length_map, HL.out]
    generalize overL xs ds = la at *
    generalize underL xs ds = lb at *
    go_enter Try.func26, Try.ntmps26
    go_wp2_with fail
    refine (C1.out _ (by go_grown)).mono ?_
    rintro e w1 ⟨A1, n1, c1, rfl, r1, l1, k1, k1', hb1⟩
    obtain rfl : n1 = n := by rw [← l1]; exact LA.out
    have B1 := bvia (show Below w.heap.size w _ by go_grown) hb1
    have HC := Lib.hid (K0.below hb1 K0.lt)
    have a0 : w1.cell? ⟨w.heap.size, 0, none⟩ = some (.int .i64 t) := HC.out.cell 0
    have a1 : w1.cell? ⟨w.heap.size, 1, none⟩ = some (.slice A n1 c) := HC.out.cell 1
    have a2 : w1.cell? ⟨w.heap.size, 2, none⟩ = some (.slice B m d) := HC.out.cell 2
    have q := HC.out.lt
    have R1 := Lib.hid r1; clear r1
    clear K0 hb1 C1 l1
    go_wp2_with fail
    refine (C2.out _ B1).mono ?_
    rintro e w2 ⟨A2, n2, c2, rfl, r2, l2, k2, k2', hb2⟩
    obtain rfl : n2 = n1 := by rw [← l2]; exact LB.out
    have B2 := bvia B1 hb2
    have R1' := Lib.hid (R1.out.up hb2)
    have R2 := Lib.hid r2; clear r2
    clear a0 a1 a2 q HC R1 hb2 C2 l2 B1
    go_wp2
    go_loopw [10, 11] (fun v i wr => ∃ (j l : Nat) (A' : Option Addr) (c' : Nat), j ≤ n2 ∧ l ≤ j ∧ i = .int .i64 (j : Int) ∧ v = .slice A' l c' ∧ (eqTo la lb j).length = l ∧ wr.ownsRow w2.heap.size 3 1 v l ((eqTo la lb j).map vInt) ∧ Below w2.heap.size w2 wr) (fun _ i _ => n2 - (intOf i).toNat)
    case atStart => exact ⟨0, 0, none, 0, Nat.zero_le _, Nat.le_refl _, rfl, rfl, rfl, World.ownsRow_nil _ _ _ _, Below.refl _ _⟩
    case round =>
      obtain ⟨j, l, A', c', hj, hlj, rfl, rfl, hll, hown, hb⟩ := hrel
      obtain ⟨wo, rfl⟩ : ∃ wo : World, wo = wr := ⟨_, rfl⟩
      have HO' := Lib.hid hown; clear hown
      have HLL := Lib.hid hll; clear hll
      have hz := hb.size
      by_cases hlt : j < n2
      · obtain ⟨x, hx⟩ := get_of_lt (l := la) (k := j) (by rw [LA.out]; exact hlt)
        obtain ⟨y, hy⟩ := get_of_lt (l := lb) (k := j) (by rw [LB.out]; exact hlt)
        obtain ⟨ba, oa, rfl, hba, c0⟩ := R1'.out _ x hx
        obtain ⟨bb, ob, rfl, hbb, c1⟩ := R2.out _ y hy
        have e0 := (hb.cell (p := ⟨ba, oa + j, none⟩) hba).trans c0
        have e1 := (hb.cell (p := ⟨bb, ob + j, none⟩) hbb).trans c1
        have z0 : ba < wo.heap.size := by omega
        have z1 : bb < wo.heap.size := by omega
        have HX := Lib.hid hx; have HY := Lib.hid hy; clear hx hy c0 c1
        by_cases he : x = y
        · have hed : (x == y) = true := by simpa using he
          have HS : Hid (eqTo la lb (j + 1) = eqTo la lb j ++ [(j : Int)]) := by
            show (if la[j]? = lb[j]? then eqTo la lb j ++ [(j : Int)] else eqTo la lb j) = _
            rw [if_pos (by rw [HX.out, HY.out, he])]
          clear he
          go_wp2
          have hxc := fun (x : Ext wo) => x.cell
          refine wp_region_ext (by kernel_rfl) (by kernel_rfl) ?_
          repeat (go_big_quiet_step (fail))
          refine wpQuiet_nil ?_
          intro w6 hw'
          have hb6 := ext_below hw'; clear hw' hxc
          have HO6 := Lib.hid (own_below HO'.out hb6)
          have B6 := hb.trans (hb6.mono hz)
          have hz6 := B6.size
          clear HO' hb6
          go_wp2_with (at_builtin; refine wpList_app rfl (.tmp 42) (.tmp 44) _ rfl w2.heap.size 3 (.int .i64 0) 1 8 Try.underlying26 infoInt rfl (by omega) (by omega) _ _ _ rfl (HO6.out.alloc _) w6.heap.size [vInt (j : Int)] rfl rfl (news_new _ _ _) (one_int _ _) (by omega) (by simp; omega) ?_; intro ga cap1 w7 hg1 hown1 hgrow1 hor1)
          go_roundw
          case rel => exact ⟨j + 1, l + 1, some ⟨ga, 0, none⟩, cap1, by omega, by omega, by go_num, rfl, by rw [HS.out, List.length_append, HLL.out]; rfl, by rw [HS.out]; simpa using hown1, (B6.alloc hz6 _).grown hgrow1 (by simp; omega) (fun kk hk => (HO6.out.lt kk hk).1)⟩
          case measure => first | (simp [intOf]; done) | (simp [intOf]; omega)
        · have hed : (x == y) = false := by simpa using he
          have HS : Hid (eqTo la lb (j + 1) = eqTo la lb j) := by
            show (if la[j]? = lb[j]? then eqTo la lb j ++ [(j : Int)] else eqTo la lb j) = _
            rw [if_neg (by rw [HX.out, HY.out]; intro h; exact he (by injection h))]
          clear he
          go_wp2
          have hxc := fun (x : Ext wo) => x.cell
          refine wp_region_ext (by kernel_rfl) (by kernel_rfl) ?_
          repeat (go_big_quiet_step (fail))
          refine wpQuiet_nil ?_
          intro w6 hw'
          have hb6 := ext_below hw'; clear hw' hxc
          have HO6 := Lib.hid (own_below HO'.out hb6)
          have B6 := hb.trans (hb6.mono hz)
          clear HO' hb6
          go_wp2
          go_roundw
          case rel => exact ⟨j + 1, l, A', c', by omega, by omega, by go_num, rfl, by rw [HS.out, HLL.out], by rw [HS.out]; exact HO6.out, B6⟩
          case measure => first | (simp [intOf]; done) | (simp [intOf]; omega)
      · obtain rfl : j = n2 := by omega
        have hcc := own_caps HO'.out
        go_wp2
        go_ret2
        exact ⟨A', l, c', rfl, own_rd1 HO'.out, HLL.out, hcc.1, hcc.2, bvia B2 hb⟩
  · have hR1 : seenR t xs ps ds = [] := by unfold seenR; rw [if_neg hE]
    have hR3 : plainR t xs ps ds = [] := by unfold plainR; rw [if_neg hE]
    rw [hR1] at C1
    rw [hR3]
    generalize chkE t xs ps ds = r at *
    have hr : (r != 0) = true := by simpa using hE
    clear hE hR1 hR3 C2
    go_enter Try.func26, Try.ntmps26
    go_wp2_with fail
    refine (C1.out _ (by go_grown)).mono ?_
    rintro e w1 ⟨A1, n1, c1, rfl, r1, l1, k1, k1', hb1⟩
    have B1 := bvia (show Below w.heap.size w _ by go_grown) hb1
    clear K0 hb1 r1
    go_wp2
    go_ret2
    exact ⟨none, 0, 0, rfl, Rd1.nil _ _ _ _, rfl, Nat.le_refl _, by omega, B1⟩
end Go.Proofs.Ytnijfkidgndbdaa
