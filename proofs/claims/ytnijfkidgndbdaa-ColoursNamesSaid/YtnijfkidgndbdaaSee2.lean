/-
  Contracts of chapter 21: colours.Seen and colours.Back.
-/
import Derived.Test.YtnijfkidgndbdaaAsk
namespace Go.Proofs.Ytnijfkidgndbdaa
open Go.RowKit
/-- what a closure leaves of asked's own blocks -/
def KeepsT (W W' : World) : Prop := ∀ r tt cs, tt = 25 ∨ tt = 38 → Has W r tt cs → Has W' r tt cs
theorem Has.type_ne {w : World} {g r : Nat} {t t' : TypeId} {cs cs' : List Value} (h : Has w g t cs) (h' : Has w r t' cs') (ht : t ≠ t') : r ≠ g := by
  intro e; subst e
  unfold Has at h h'
  rw [h] at h'
  injection h' with h'; injection h' with _ h'
  exact ht h'
theorem keepsT_put {W W' : World} {g : Nat} {t : TypeId} {cs : List Value} (hh : Has W g t cs) (h1 : t ≠ 25) (h2 : t ≠ 38) (u : Value) (i : Nat) (hk : KeepsT W' W) : KeepsT W' (W.setCell ⟨g, i, none⟩ u) := fun r tt cs' htt hr => by
  have hW := hk r tt cs' htt hr
  refine hW.far ?_ i u
  rcases htt with rfl | rfl
  · exact hh.type_ne hW h1
  · exact hh.type_ne hW h2
theorem keepsT_grown {W W' : World} {base n size : Nat} {e : TypeId} {v : Value} {xs : List Value} (ho : W.ownsRow base e size v n xs) (h1 : 25 ≠ e) (h2 : 38 ≠ e) (hg : W.grownBy W' v.ownBlock) : KeepsT W W' := fun r tt cs htt hr => by
  refine hr.same (hg.block r hr.lt ?_)
  rcases htt with rfl | rfl
  · exact fun e => hr.ne_own ho h1 e.symm
  · exact fun e => hr.ne_own ho h2 e.symm
theorem keepsT_alloc (W : World) (o : Obj) : KeepsT W (W.alloc o) := fun _ _ _ _ h => h.alloc o
theorem KeepsT.trans {A B C : World} (h : KeepsT A B) (k : KeepsT B C) : KeepsT A C := fun r tt cs htt hr => k r tt cs htt (h r tt cs htt hr)
/-- what holds of a list of ints that a closure collects in cell go -/
structure Coll (go base B0 : Nat) (f : Nat → List Int) (w0 : World) (j : Nat) (W : World) : Prop where
  row : ∃ A n c, Has W go 26 [.slice A n c] ∧ (f j).length = n ∧ W.ownsRow base 3 1 (.slice A n c) n ((f j).map vInt)
  size : base ≤ W.heap.size
  low : Below B0 w0 W
theorem Coll.mono {go base B0 : Nat} {f : Nat → List Int} {w0 W W' : World} {j : Nat} (hb : B0 ≤ base) (h : Coll go base B0 f w0 j W) (k : Below W.heap.size W W') : Coll go base B0 f w0 j W' := by
  obtain ⟨⟨A, n, c, h1, h2, h3⟩, h4, h5⟩ := h
  exact ⟨⟨A, n, c, h1.below k h1.lt, h2, own_below h3 k⟩, Nat.le_trans h4 k.size, h5.trans (k.mono (Nat.le_trans hb h4))⟩
theorem post_one_tmp {P : Program} {fn : Func} {R : Ending → World → Prop} {a : Act} {w : World} {g : Nat} {t ty : TypeId} {p u : Tmp} {v x : Value} (hh : Has w g t [v]) (hres : fn.results = #[.cell p ty, .tmp u])
    (hp : a.tmps.getD p undef = .pointer (some ⟨g, 0, none⟩)) (hx : a.tmps.getD u undef = x) (hd : a.defers = []) (hu : ∀ w, (isAgg ty).run P w = .ok false w)
    (hR : R (.returned (.tuple #[v, x])) w) : bodyPost P fn R .ret a w := by
  refine bodyPost_ret (v := .tuple #[v, x]) ?_ hd hR
  have hc := hh.cell 0
  simp at hc
  rw [results_cell_tmp hres, hp, hx]
  simp [asAddr, loadVar, Sem.run_bind, hu, Result.andThen, go_sem, hc]
set_option maxRecDepth 100000 in
theorem seenF41 (go base B0 j : Nat) (xs : List Q4) (ds : List Int) (w0 W : World) (x : Q4) (va vb : Int) (hgo : go < base) (hB : B0 ≤ go) (hx : xs[j]? = some x) (hj : j ≤ 20000) (hv : ds.getD x.c.toNat 0 = va) (hI : Coll go base B0 (fun j => overL (xs.take j) ds) w0 j W) :
    Calls Try.prog 41 #[.int .i64 (j : Int), .int .i64 va, .int .i64 vb, .pointer (some ⟨go, 0, none⟩)] W fun e W' => (∃ v, e = .returned v) ∧ Coll go base B0 (fun j => overL (xs.take j) ds) w0 (j + 1) W' ∧ Below B0 W W' ∧ KeepsT W W' := by
  obtain ⟨⟨A, n, c, h1, h2, h3⟩, h4, h5⟩ := hI
  have c0 : W.cell? ⟨go, 0, none⟩ = some (.slice A n c) := h1.cell 0
  have q := h1.lt
  have HO := Lib.hid h3; clear h3
  have HH := Lib.hid h1; clear h1
  have HX := Lib.hid hx; clear hx
  have hn : n ≤ 20000 := by rw [← h2]; unfold overL; simp; omega
  have HS : Hid (overL (xs.take (j + 1)) ds = overL (xs.take j) ds ++ [va]) := by
    show overL (xs.take (j + 1)) ds = _
    unfold overL
    rw [map_take_succ _ HX.out, hv]
  clear hv
  go_enter Try.func41, Try.ntmps41
  go_wp2_with (at_builtin; refine wpList_app rfl (.tmp 7) (.tmp 9) _ rfl base 3 (.int .i64 0) 1 8 Try.underlying26 infoInt rfl (by omega) (by omega) _ _ _ rfl (HO.out.alloc _) W.heap.size [vInt va] rfl rfl (news_new _ _ _) (one_int _ _) (by omega) (by simp; omega) ?_)
  intro ga cap1 w2 hg1 hown1 hgrow1 hor1
  have hsz : (W.alloc (.cells #[.int .i64 va] 3)).heap.size = W.heap.size + 1 := by simp
  have hh2 := (HH.out.alloc (.cells #[.int .i64 va] 3)).same (hgrow1.block go (by omega) (fun e => (HH.out.alloc (.cells #[.int .i64 va] 3)).ne_own (HO.out.alloc _) (by decide) e.symm))
  have c2 := hh2.cell 0
  have f2 := hh2.free 0
  have q2 := hh2.lt
  have HH2 := Lib.hid hh2
  clear hh2
  go_wp2
  go_end0
  have hs1 : base ≤ w2.heap.size := by have h := hgrow1.size; simp at h; omega
  have b2 : Below B0 W w2 := ((Below.refl B0 W).alloc (by omega) _).grown hgrow1 (by simp; omega) (fun k hk => by have := (HO.out.lt k hk).1; omega)
  refine ⟨⟨_, rfl⟩, ⟨⟨some ⟨ga, 0, none⟩, n + 1, cap1, HH2.out.set 0 _, ?_, ?_⟩, by simpa [World.setCell] using hs1, (h5.trans b2).setCell hB _⟩, b2.setCell hB _, ?_⟩
  · show (overL (xs.take (j + 1)) ds).length = n + 1
    rw [HS.out, List.length_append, h2]; rfl
  · show World.ownsRow _ base 3 1 _ (n + 1) ((overL (xs.take (j + 1)) ds).map vInt)
    rw [HS.out]
    refine ownsRow_setCell_below ?_ (by simpa using hgo) _
    simpa using hown1
  · exact keepsT_put HH2.out (by decide) (by decide) _ 0 ((keepsT_alloc W _).trans (keepsT_grown (HO.out.alloc _) (by decide) (by decide) hgrow1))
set_option maxRecDepth 100000 in
set_option maxHeartbeats 1000000 in
theorem seen14 (t : Int) (A B D : Option Addr) (n c m d k e : Nat) (xs ps : List Q4) (ds : List Int) (w : World) (hn : n ≤ 9223372036854775807) (hm : m ≤ 9223372036854775807) (hk : k ≤ 9223372036854775807) (hx : RdQ w w.heap.size A xs) (hp : RdQ w w.heap.size B ps) (hd : RdI w w.heap.size D ds)
    (hl : xs.length = n) (hl' : ps.length = m) (hlk : ds.length = k) (ht0 : -9223372036854775808 ≤ t) :
    Calls Try.prog 14 #[vCloth t A n c B m d, .slice D k e] w (RetIE (seenR t xs ps ds) (chkE t xs ps ds) w) := by
  have HL := Lib.hid hl
  have hf : Coll (w.heap.size + 1) (w.heap.size + 2) w.heap.size (fun j => overL (xs.take j) ds) w 0 ((w.alloc (.cells #[.int .i64 t, .slice A n c, .slice B m d] 25)).alloc (.cells #[.slice none 0 0] 26)) :=
    ⟨⟨none, 0, 0, Has.new2 rfl, rfl, World.ownsRow_nil _ _ _ _⟩, by simp, by go_grown⟩
  have hsz : w.heap.size ≤ ((w.alloc (.cells #[.int .i64 t, .slice A n c, .slice B m d] 25)).alloc (.cells #[.slice none 0 0] 26)).heap.size := by simp; omega
  have C := Lib.hid (asked40 (Coll (w.heap.size + 1) (w.heap.size + 2) w.heap.size (fun j => overL (xs.take j) ds) w) 41 #[.pointer (some ⟨w.heap.size + 1, 0, none⟩)] t A B D n c m d k e w.heap.size xs ps ds ((w.alloc (.cells #[.int .i64 t, .slice A n c, .slice B m d] 25)).alloc (.cells #[.slice none 0 0] 26))
    Try.call41 hsz hn hm hk (hx.below (by go_grown) (Nat.le_refl _)) (hp.below (by go_grown) (Nat.le_refl _)) (hd.below (by go_grown) (Nat.le_refl _)) hl hl' hlk ht0 hf (fun j W W' h1 h2 => h1.mono (by omega) h2)
    (fun h0 j x W hx hI => seenF41 _ _ _ j xs ds w W x _ _ (by omega) (by omega) hx (by have := lt_of_get hx; have := (ckE_ok (chkE_ok h0).1).2.2.1; omega) rfl hI))
  clear hx hp hd hsz hf
  go_enter Try.func14, Try.ntmps14
  go_wp2_with fail
  refine C.out.mono ?_
  rintro e w1 ⟨rfl, hb1, hz, hnz⟩
  have HI : Hid (Coll (w.heap.size + 1) (w.heap.size + 2) w.heap.size (fun _ => seenR t xs ps ds) w 0 w1) := by
    by_cases hE : chkE t xs ps ds = 0
    · obtain ⟨⟨A', n', c', h1, h2, h3⟩, h4, h5⟩ := hz hE
      have hR : seenR t xs ps ds = overL xs ds := by unfold seenR; rw [if_pos hE]
      rw [hR]
      have ht : xs.take n = xs := List.take_of_length_le (by rw [HL.out]; exact Nat.le_refl _)
      rw [ht] at h2 h3
      exact ⟨⟨A', n', c', h1, h2, h3⟩, h4, h5⟩
    · obtain ⟨⟨A', n', c', h1, h2, h3⟩, h4, h5⟩ := hnz hE
      have hR : seenR t xs ps ds = [] := by unfold seenR; rw [if_neg hE]
      rw [hR]
      exact ⟨⟨A', n', c', h1, h2, h3⟩, h4, h5⟩
  clear hz hnz C
  obtain ⟨⟨A', n', c', h1, h2, h3⟩, h4, h5⟩ := HI.out
  clear HI
  have c0 : w1.cell? ⟨w.heap.size + 1, 0, none⟩ = some (.slice A' n' c') := h1.cell 0
  have f0 := h1.free 0
  have H1 := Lib.hid h1; clear h1
  have H3 := Lib.hid h3; clear h3
  have hcc := own_caps H3.out
  go_wp2
  refine post_one_tmp (H1.out.set 0 (.slice A' n' c')) rfl rfl rfl rfl Try.isAgg26 ?_
  exact ⟨A', n', c', rfl, own_rd1 (ownsRow_setCell_below H3.out (by simp) _), h2, hcc.1, hcc.2, h5.setCell (by simp) _⟩
set_option maxRecDepth 100000 in
theorem backF47 (go base B0 j : Nat) (xs : List Q4) (ds : List Int) (w0 W : World) (x : Q4) (va vb : Int) (hgo : go < base) (hB : B0 ≤ go) (hx : xs[j]? = some x) (hj : j ≤ 20000) (hv : ds.getD x.d.toNat 0 = vb) (hI : Coll go base B0 (fun j => underL (xs.take j) ds) w0 j W) :
    Calls Try.prog 47 #[.int .i64 (j : Int), .int .i64 va, .int .i64 vb, .pointer (some ⟨go, 0, none⟩)] W fun e W' => (∃ v, e = .returned v) ∧ Coll go base B0 (fun j => underL (xs.take j) ds) w0 (j + 1) W' ∧ Below B0 W W' ∧ KeepsT W W' := by
  obtain ⟨⟨A, n, c, h1, h2, h3⟩, h4, h5⟩ := hI
  have c0 : W.cell? ⟨go, 0, none⟩ = some (.slice A n c) := h1.cell 0
  have q := h1.lt
  have HO := Lib.hid h3; clear h3
  have HH := Lib.hid h1; clear h1
  have HX := Lib.hid hx; clear hx
  have hn : n ≤ 20000 := by rw [← h2]; unfold underL; simp; omega
  have HS : Hid (underL (xs.take (j + 1)) ds = underL (xs.take j) ds ++ [vb]) := by
    show underL (xs.take (j + 1)) ds = _
    unfold underL
    rw [map_take_succ _ HX.out, hv]
  clear hv
  go_enter Try.func47, Try.ntmps47
  go_wp2_with (at_builtin; refine wpList_app rfl (.tmp 7) (.tmp 9) _ rfl base 3 (.int .i64 0) 1 8 Try.underlying26 infoInt rfl (by omega) (by omega) _ _ _ rfl (HO.out.alloc _) W.heap.size [vInt vb] rfl rfl (news_new _ _ _) (one_int _ _) (by omega) (by simp; omega) ?_)
  intro ga cap1 w2 hg1 hown1 hgrow1 hor1
  have hsz : (W.alloc (.cells #[.int .i64 vb] 3)).heap.size = W.heap.size + 1 := by simp
  have hh2 := (HH.out.alloc (.cells #[.int .i64 vb] 3)).same (hgrow1.block go (by omega) (fun e => (HH.out.alloc (.cells #[.int .i64 vb] 3)).ne_own (HO.out.alloc _) (by decide) e.symm))
  have c2 := hh2.cell 0
  have f2 := hh2.free 0
  have q2 := hh2.lt
  have HH2 := Lib.hid hh2
  clear hh2
  go_wp2
  go_end0
  have hs1 : base ≤ w2.heap.size := by have h := hgrow1.size; simp at h; omega
  have b2 : Below B0 W w2 := ((Below.refl B0 W).alloc (by omega) _).grown hgrow1 (by simp; omega) (fun k hk => by have := (HO.out.lt k hk).1; omega)
  refine ⟨⟨_, rfl⟩, ⟨⟨some ⟨ga, 0, none⟩, n + 1, cap1, HH2.out.set 0 _, ?_, ?_⟩, by simpa [World.setCell] using hs1, (h5.trans b2).setCell hB _⟩, b2.setCell hB _, ?_⟩
  · show (underL (xs.take (j + 1)) ds).length = n + 1
    rw [HS.out, List.length_append, h2]; rfl
  · show World.ownsRow _ base 3 1 _ (n + 1) ((underL (xs.take (j + 1)) ds).map vInt)
    rw [HS.out]
    refine ownsRow_setCell_below ?_ (by simpa using hgo) _
    simpa using hown1
  · exact keepsT_put HH2.out (by decide) (by decide) _ 0 ((keepsT_alloc W _).trans (keepsT_grown (HO.out.alloc _) (by decide) (by decide) hgrow1))
set_option maxRecDepth 100000 in
set_option maxHeartbeats 1000000 in
theorem back19 (t : Int) (A B D : Option Addr) (n c m d k e : Nat) (xs ps : List Q4) (ds : List Int) (w : World) (hn : n ≤ 9223372036854775807) (hm : m ≤ 9223372036854775807) (hk : k ≤ 9223372036854775807) (hx : RdQ w w.heap.size A xs) (hp : RdQ w w.heap.size B ps) (hd : RdI w w.heap.size D ds)
    (hl : xs.length = n) (hl' : ps.length = m) (hlk : ds.length = k) (ht0 : -9223372036854775808 ≤ t) :
    Calls Try.prog 19 #[vCloth t A n c B m d, .slice D k e] w (RetIE (backR t xs ps ds) (chkE t xs ps ds) w) := by
  have HL := Lib.hid hl
  have hf : Coll (w.heap.size + 1) (w.heap.size + 2) w.heap.size (fun j => underL (xs.take j) ds) w 0 ((w.alloc (.cells #[.int .i64 t, .slice A n c, .slice B m d] 25)).alloc (.cells #[.slice none 0 0] 26)) :=
    ⟨⟨none, 0, 0, Has.new2 rfl, rfl, World.ownsRow_nil _ _ _ _⟩, by simp, by go_grown⟩
  have hsz : w.heap.size ≤ ((w.alloc (.cells #[.int .i64 t, .slice A n c, .slice B m d] 25)).alloc (.cells #[.slice none 0 0] 26)).heap.size := by simp; omega
  have C := Lib.hid (asked40 (Coll (w.heap.size + 1) (w.heap.size + 2) w.heap.size (fun j => underL (xs.take j) ds) w) 47 #[.pointer (some ⟨w.heap.size + 1, 0, none⟩)] t A B D n c m d k e w.heap.size xs ps ds ((w.alloc (.cells #[.int .i64 t, .slice A n c, .slice B m d] 25)).alloc (.cells #[.slice none 0 0] 26))
    Try.call47 hsz hn hm hk (hx.below (by go_grown) (Nat.le_refl _)) (hp.below (by go_grown) (Nat.le_refl _)) (hd.below (by go_grown) (Nat.le_refl _)) hl hl' hlk ht0 hf (fun j W W' h1 h2 => h1.mono (by omega) h2)
    (fun h0 j x W hx hI => backF47 _ _ _ j xs ds w W x _ _ (by omega) (by omega) hx (by have := lt_of_get hx; have := (ckE_ok (chkE_ok h0).1).2.2.1; omega) rfl hI))
  clear hx hp hd hsz hf
  go_enter Try.func19, Try.ntmps19
  go_wp2_with fail
  refine C.out.mono ?_
  rintro e w1 ⟨rfl, hb1, hz, hnz⟩
  have HI : Hid (Coll (w.heap.size + 1) (w.heap.size + 2) w.heap.size (fun _ => backR t xs ps ds) w 0 w1) := by
    by_cases hE : chkE t xs ps ds = 0
    · obtain ⟨⟨A', n', c', h1, h2, h3⟩, h4, h5⟩ := hz hE
      have hR : backR t xs ps ds = underL xs ds := by unfold backR; rw [if_pos hE]
      rw [hR]
      have ht : xs.take n = xs := List.take_of_length_le (by rw [HL.out]; exact Nat.le_refl _)
      rw [ht] at h2 h3
      exact ⟨⟨A', n', c', h1, h2, h3⟩, h4, h5⟩
    · obtain ⟨⟨A', n', c', h1, h2, h3⟩, h4, h5⟩ := hnz hE
      have hR : backR t xs ps ds = [] := by unfold backR; rw [if_neg hE]
      rw [hR]
      exact ⟨⟨A', n', c', h1, h2, h3⟩, h4, h5⟩
  clear hz hnz C
  obtain ⟨⟨A', n', c', h1, h2, h3⟩, h4, h5⟩ := HI.out
  clear HI
  have c0 : w1.cell? ⟨w.heap.size + 1, 0, none⟩ = some (.slice A' n' c') := h1.cell 0
  have f0 := h1.free 0
  have H1 := Lib.hid h1; clear h1
  have H3 := Lib.hid h3; clear h3
  have hcc := own_caps H3.out
  go_wp2
  refine post_one_tmp (H1.out.set 0 (.slice A' n' c')) rfl rfl rfl rfl Try.isAgg26 ?_
  exact ⟨A', n', c', rfl, own_rd1 (ownsRow_setCell_below H3.out (by simp) _), h2, hcc.1, hcc.2, h5.setCell (by simp) _⟩
end Go.Proofs.Ytnijfkidgndbdaa
