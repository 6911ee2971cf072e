/-
  Contract of chapter 21: colours.Runs with its closure.
-/
import Derived.Test.YtnijfkidgndbdaaRun
namespace Go.Proofs.Ytnijfkidgndbdaa
open Go.RowKit
/-- the colour of the crossing before the j-th, or none -/
def lastOf (a : List Int) (j : Nat) : Int := if j = 0 then -1 else a.getD (j - 1) 0
structure CollR (go gl base B0 : Nat) (a : List Int) (w0 : World) (j : Nat) (W : World) : Prop where
  row : ∃ A n c, Has W go 39 [.slice A n c] ∧ (runsTo a j).length = n ∧ W.ownsRow base 43 3 (.slice A n c) n (rnsCells (runsTo a j))
  last : Has W gl 3 [.int .i64 (lastOf a j)]
  size : base ≤ W.heap.size
  low : Below B0 w0 W
theorem CollR.mono {go gl base B0 : Nat} {a : List Int} {w0 W W' : World} {j : Nat} (hb : B0 ≤ base) (h : CollR go gl base B0 a w0 j W) (k : Below W.heap.size W W') : CollR go gl base B0 a w0 j W' := by
  obtain ⟨⟨A, n, c, h1, h2, h3⟩, h6, h4, h5⟩ := h
  exact ⟨⟨A, n, c, h1.below k h1.lt, h2, own_below h3 k⟩, h6.below k h6.lt, Nat.le_trans h4 k.size, h5.trans (k.mono (Nat.le_trans hb h4))⟩
theorem keepsT_set {W : World} {g i : Nat} {u : Value} (hg : ∀ tt cs, tt = 25 ∨ tt = 38 → ¬ Has W g tt cs) : KeepsT W (W.setCell ⟨g, i, none⟩ u) := fun r tt cs htt hr => hr.far (fun e => by subst e; exact hg tt cs htt hr) i u
set_option maxRecDepth 100000 in
set_option maxHeartbeats 4000000 in
theorem runsF51 (go gl base B0 j : Nat) (a : List Int) (w0 W : World) (va vb : Int) (hgo : go < base) (hgl : gl < base) (hB : B0 ≤ go) (hB' : B0 ≤ gl) (hne : go ≠ gl) (ha : a[j]? = some va) (hp : ∀ x ∈ a, 0 ≤ x) (hj : j ≤ 20000) (hI : CollR go gl base B0 a w0 j W) :
    Calls Try.prog 51 #[.int .i64 (j : Int), .int .i64 va, .int .i64 vb, .pointer (some ⟨gl, 0, none⟩), .pointer (some ⟨go, 0, none⟩)] W fun e W' => (∃ v, e = .returned v) ∧ CollR go gl base B0 a w0 (j + 1) W' ∧ Below B0 W W' ∧ KeepsT W W' := by
  obtain ⟨⟨A, n, c, h1, h2, h3⟩, h6, h4, h5⟩ := hI
  have c0 : W.cell? ⟨go, 0, none⟩ = some (.slice A n c) := h1.cell 0
  have d0 : W.cell? ⟨gl, 0, none⟩ = some (.int .i64 (lastOf a j)) := h6.cell 0
  have HLast : Hid (lastOf a (j + 1) = va) := by
    show lastOf a (j + 1) = va
    unfold lastOf
    rw [if_neg (by omega), Nat.add_sub_cancel, List.getD_eq_getElem?_getD, ha]; rfl
  have HO := Lib.hid h3; clear h3
  have HH := Lib.hid h1; clear h1
  have HG := Lib.hid h6; clear h6
  have hn : n ≤ 20000 := by have := runsTo_len a j; omega
  by_cases hnew : j = 0 ∨ a[j]? ≠ a[j - 1]?
  · have hne' : (va != lastOf a j) = true := by
      simp only [bne_iff_ne, ne_eq]
      unfold lastOf
      by_cases h0 : j = 0
      · rw [if_pos h0]
        have := hp va (mem_of_get ha); omega
      · rw [if_neg h0]
        obtain ⟨y, hy⟩ := get_of_lt (l := a) (k := j - 1) (by have := lt_of_get ha; omega)
        rw [List.getD_eq_getElem?_getD, hy]
        rcases hnew with h | h
        · exact absurd h h0
        · intro e; exact h (by rw [ha, hy]; exact congrArg some e)
    have HS := Lib.hid (runsTo_new ha hnew)
    clear ha hnew
    generalize lastOf a j = lv at *
    go_enter Try.func51, Try.ntmps51
    go_wp2_with (at_builtin; refine wpList_app rfl (.tmp 11) (.tmp 15) _ rfl base 43 (.agg #[.int .i64 0, .int .i64 0, .int .i64 0]) 3 24 Try.underlying39 infoRn rfl (by omega) (by omega) _ _ _ rfl (HO.out.alloc _) W.heap.size (rnCells ⟨va, (j : Int), 0⟩) rfl rfl (news_rn _ ⟨va, (j : Int), 0⟩ _) (one_rn _) (by omega) (by simp; omega) ?_)
    intro ga cap1 w2 hg1 hown1 hgrow1 hor1
    have hsz : (W.alloc (.cells #[.int .i64 va, .int .i64 (j : Int), .int .i64 0] 43)).heap.size = W.heap.size + 1 := by simp
    have hh := HH.out.alloc (.cells #[.int .i64 va, .int .i64 (j : Int), .int .i64 0] 43)
    have hg' := HG.out.alloc (.cells #[.int .i64 va, .int .i64 (j : Int), .int .i64 0] 43)
    have hh2 := hh.same (hgrow1.block go hh.lt (fun e => hh.ne_own (HO.out.alloc _) (by decide) e.symm))
    have hg2 := hg'.same (hgrow1.block gl hg'.lt (fun e => hg'.ne_own (HO.out.alloc _) (by decide) e.symm))
    have hown2 : w2.ownsRow base 43 3 (.slice (some ⟨ga, 0, none⟩) (n + 1) cap1) (n + 1) (rnsCells (runsTo a j ++ [⟨va, (j : Int), 0⟩])) := by rw [rnsCells_app]; exact hown1
    have g0 : w2.cell? ⟨ga, n * 3 + 2, none⟩ = some (.int .i64 0) := by
      rw [hown2.cellAt _ (by omega)]
      have := rnsCells_last (runsTo a j) ⟨va, (j : Int), 0⟩
      rwa [h2] at this
    have f0 := hown2.frozenAt (n * 3 + 2)
    have c2 := hh2.cell 0
    have f2 := hh2.free 0
    have q2 := hh2.lt
    have d2 := hg2.cell 0
    have fd2 := hg2.free 0
    have qd2 := hg2.lt
    have b2 : Below B0 W w2 := ((Below.refl B0 W).alloc (by omega) _).grown hgrow1 (by simp; omega) (fun k hk => by have := (HO.out.lt k hk).1; omega)
    have KT : KeepsT W w2 := (keepsT_alloc W _).trans (keepsT_grown (HO.out.alloc _) (by decide) (by decide) hgrow1)
    have hs1 : base ≤ w2.heap.size := by have h := hgrow1.size; simp at h; omega
    have qa : ga < w2.heap.size := (hown2.lt ga rfl).2
    have i1 : IntKind.i64.wrap (((n + 1 : Nat) : Int) - 1) = (n : Int) := by rw [show ((n + 1 : Nat) : Int) - 1 = (n : Int) by omega]; exact IntWalk.i64_in _ (by omega)
    have i2 : ((n : Nat) : Int).toNat = n := by simp
    have i3 : (n : Int) < ((n + 1 : Nat) : Int) := by omega
    have i4 : (0 : Int) ≤ (n : Int) := by omega
    have n1 : ga ≠ go := by omega
    have n2 : ga ≠ gl := by omega
    have n3 : go ≠ ga := by omega
    have n4 : gl ≠ ga := by omega
    have HH2 := Lib.hid hh2; have HG2 := Lib.hid hg2; have HO2 := Lib.hid hown2; have HK := Lib.hid KT
    have hne2 : gl ≠ go := fun e => hne e.symm
    clear hh2 hg2 hown2 hown1 hgrow1 hh hg' KT HH HG HO c0 d0
    go_wp2
    go_end0
    have H1 := HH2.out.set 0 (.slice (some ⟨ga, 0, none⟩) (n + 1) cap1)
    have H2 := HG2.out.far hne2 0 (.slice (some ⟨ga, 0, none⟩) (n + 1) cap1)
    have H3 := H1.far hne 0 (.int .i64 va)
    have H4 := H2.set 0 (.int .i64 va)
    have O1 := ownsRow_setCell_below (ownsRow_setCell_below HO2.out (a := ⟨go, 0, none⟩) (by simpa using hgo) (.slice (some ⟨ga, 0, none⟩) (n + 1) cap1)) (a := ⟨gl, 0, none⟩) (by simpa using hgl) (.int .i64 va)
    have O2 := O1.stored (n * 3 + 2) (.int .i64 1)
    have e := rnsCells_bump (runsTo a j) ⟨va, (j : Int), 0⟩ 1
    rw [h2] at e
    have e2 : runsTo a j ++ [{ (⟨va, (j : Int), 0⟩ : Rn) with m := 1 }] = runsTo a (j + 1) := HS.out.symm
    rw [e2] at e
    rw [e] at O2
    refine ⟨⟨_, rfl⟩, ⟨⟨some ⟨ga, 0, none⟩, n + 1, cap1, H3.far n3 _ _, by rw [HS.out, List.length_append, h2]; rfl, O2.1⟩, ?_, by simpa [World.setCell] using hs1, (((h5.trans b2).setCell hB _).setCell hB' _).setCell (by simp; omega) _⟩, ((b2.setCell hB _).setCell hB' _).setCell (by simp; omega) _, ?_⟩
    · rw [HLast.out]; exact H4.far n4 _ _
    · exact (keepsT_put H2 (by decide) (by decide) _ 0 (keepsT_put HH2.out (by decide) (by decide) _ 0 HK.out)).trans (keepsT_grown O1 (by decide) (by decide) O2.2)
  · have hj1 : 0 < j := Nat.pos_of_ne_zero fun h => hnew (.inl h)
    have he : a[j]? = a[j - 1]? := Classical.byContradiction fun h => hnew (.inr h)
    have hne' : (va != lastOf a j) = false := by
      simp only [bne_eq_false_iff_eq]
      unfold lastOf
      rw [if_neg (by omega), List.getD_eq_getElem?_getD, ← he, ha]; rfl
    obtain ⟨L, r, hL⟩ := runsTo_some (a := a) hj1
    have HS := Lib.hid (runsTo_old hnew hL)
    obtain ⟨hm0, hm1⟩ := runsTo_many hL
    have hLl : L.length + 1 = n := by rw [← h2, hL, List.length_append]; rfl
    subst hLl
    have hu := rnsCells_last L r
    rw [hL] at HO
    obtain ⟨ga, rfl, hg1, hgl2, c7⟩ := own_at HO.out hu
    have hm2 : IntKind.i64.wrap (r.m + 1) = r.m + 1 := IntWalk.i64_in _ (by omega)
    have f0 := HO.out.frozenAt (L.length * 3 + 2)
    have i1 : IntKind.i64.wrap (((L.length + 1 : Nat) : Int) - 1) = (L.length : Int) := by rw [show ((L.length + 1 : Nat) : Int) - 1 = (L.length : Int) by omega]; exact IntWalk.i64_in _ (by omega)
    have i2 : ((L.length : Nat) : Int).toNat = L.length := by simp
    have i3 : (L.length : Int) < ((L.length + 1 : Nat) : Int) := by omega
    have i4 : (0 : Int) ≤ (L.length : Int) := by omega
    have n1 : ga ≠ go := by omega
    have n2 : ga ≠ gl := by omega
    have n3 : go ≠ ga := by omega
    have n4 : gl ≠ ga := by omega
    have HLastJ : Hid (lastOf a j = va) := by
      show lastOf a j = va
      have h := hne'
      simp only [bne_eq_false_iff_eq] at h
      exact h.symm
    clear ha hnew hL hu he h2
    generalize lastOf a j = lv at *
    go_enter Try.func51, Try.ntmps51
    go_wp2
    go_end0
    have O2 := HO.out.stored (L.length * 3 + 2) (.int .i64 (r.m + 1))
    rw [rnsCells_bump L r (r.m + 1)] at O2
    refine ⟨⟨_, rfl⟩, ⟨⟨some ⟨ga, 0, none⟩, L.length + 1, c, HH.out.far n3 _ _, by rw [HS.out, List.length_append]; rfl, by rw [HS.out]; exact O2.1⟩, ?_, by simpa [World.setCell] using h4, h5.setCell (by simp; omega) _⟩, (Below.refl B0 W).setCell (by simp; omega) _, keepsT_grown HO.out (by decide) (by decide) O2.2⟩
    rw [HLast.out, ← HLastJ.out]; exact HG.out.far n4 _ _
set_option maxRecDepth 100000 in
set_option maxHeartbeats 1000000 in
theorem runs27 (t : Int) (A B D : Option Addr) (n c m d k e : Nat) (xs ps : List Q4) (ds : List Int) (w : World) (hn : n ≤ 9223372036854775807) (hm : m ≤ 9223372036854775807) (hk : k ≤ 9223372036854775807) (hx : RdQ w w.heap.size A xs) (hp : RdQ w w.heap.size B ps) (hd : RdI w w.heap.size D ds)
    (hl : xs.length = n) (hl' : ps.length = m) (hlk : ds.length = k) (ht0 : -9223372036854775808 ≤ t) :
    Calls Try.prog 27 #[vCloth t A n c B m d, .slice D k e] w (RetRE (runsR t xs ps ds) (chkE t xs ps ds) w) := by
  have HL := Lib.hid hl
  have h3 : Has (((w.alloc (.cells #[.int .i64 t, .slice A n c, .slice B m d] 25)).alloc (.cells #[.slice none 0 0] 39)).alloc (.cells #[.int .i64 (-1)] 3)) (w.heap.size + 2) 3 [.int .i64 (-1)] := by
    have := Has.new2 (w := w.alloc (.cells #[.int .i64 t, .slice A n c, .slice B m d] 25)) (o := .cells #[.slice none 0 0] 39) (arr := #[.int .i64 (-1)]) (t := 3) (cs := [.int .i64 (-1)]) rfl
    rw [World.size_alloc] at this
    exact this
  have hf : CollR (w.heap.size + 1) (w.heap.size + 2) (w.heap.size + 3) w.heap.size (overL xs ds) w 0 (((w.alloc (.cells #[.int .i64 t, .slice A n c, .slice B m d] 25)).alloc (.cells #[.slice none 0 0] 39)).alloc (.cells #[.int .i64 (-1)] 3)) :=
    ⟨⟨none, 0, 0, (Has.new2 rfl).alloc _, rfl, World.ownsRow_nil _ _ _ _⟩, h3, by simp, by go_grown⟩
  have hsz : w.heap.size ≤ (((w.alloc (.cells #[.int .i64 t, .slice A n c, .slice B m d] 25)).alloc (.cells #[.slice none 0 0] 39)).alloc (.cells #[.int .i64 (-1)] 3)).heap.size := by simp; omega
  have C := Lib.hid (asked40 (CollR (w.heap.size + 1) (w.heap.size + 2) (w.heap.size + 3) w.heap.size (overL xs ds) w) 51 #[.pointer (some ⟨w.heap.size + 2, 0, none⟩), .pointer (some ⟨w.heap.size + 1, 0, none⟩)] t A B D n c m d k e w.heap.size xs ps ds (((w.alloc (.cells #[.int .i64 t, .slice A n c, .slice B m d] 25)).alloc (.cells #[.slice none 0 0] 39)).alloc (.cells #[.int .i64 (-1)] 3))
    Try.call51 hsz hn hm hk (hx.below (by go_grown) (Nat.le_refl _)) (hp.below (by go_grown) (Nat.le_refl _)) (hd.below (by go_grown) (Nat.le_refl _)) hl hl' hlk ht0 hf (fun j W W' h1 h2 => h1.mono (by omega) h2)
    (fun h0 j x W hx hI => runsF51 _ _ _ _ j _ w W _ _ (by omega) (by omega) (by omega) (by omega) (by omega) (overL_get hx) (fun y hy => by
      unfold overL at hy
      obtain ⟨z, hz, rfl⟩ := List.mem_map.1 hy
      obtain ⟨g1, g2, g3⟩ := chkE_ok h0
      obtain ⟨⟨⟨q1, q2⟩, _⟩, _⟩ := cross_ok g1 z hz
      exact (col_get g3 _ (by omega)).1) (by have := lt_of_get hx; have := (ckE_ok (chkE_ok h0).1).2.2.1; omega) hI))
  clear hx hp hd hsz hf h3
  go_enter Try.func27, Try.ntmps27
  go_wp2_with fail
  refine C.out.mono ?_
  rintro e w1 ⟨rfl, hb1, hz, hnz⟩
  have HI : Hid (∃ A' n' c', Has w1 (w.heap.size + 1) 39 [.slice A' n' c'] ∧ (runsR t xs ps ds).length = n' ∧ w1.ownsRow (w.heap.size + 3) 43 3 (.slice A' n' c') n' (rnsCells (runsR t xs ps ds)) ∧ Below w.heap.size w w1) := by
    by_cases hE : chkE t xs ps ds = 0
    · obtain ⟨⟨A', n', c', h1, h2, h3⟩, _, h4, h5⟩ := hz hE
      have hR : runsR t xs ps ds = runsTo (overL xs ds) n := by unfold runsR; rw [if_pos hE, HL.out]
      rw [hR]
      exact ⟨A', n', c', h1, h2, h3, h5⟩
    · obtain ⟨⟨A', n', c', h1, h2, h3⟩, _, h4, h5⟩ := hnz hE
      have hR : runsR t xs ps ds = [] := by unfold runsR; rw [if_neg hE]
      rw [hR]
      exact ⟨A', n', c', h1, h2, h3, h5⟩
  clear hz hnz C
  obtain ⟨A', n', c', h1, h2, h3, h5⟩ := HI.out
  clear HI
  have c0 : w1.cell? ⟨w.heap.size + 1, 0, none⟩ = some (.slice A' n' c') := h1.cell 0
  have f0 := h1.free 0
  have H1 := Lib.hid h1; clear h1
  have H3 := Lib.hid h3; clear h3
  go_wp2
  refine post_one_tmp (H1.out.set 0 (.slice A' n' c')) rfl rfl rfl rfl Try.isAgg39 ?_
  exact ⟨A', n', c', rfl, own_base (ownsRow_setCell_below H3.out (by simp) _) (by omega), h2, h5.setCell (by simp) _⟩
end Go.Proofs.Ytnijfkidgndbdaa
