/-
  Contract of seams.Period.
-/
import Derived.Test.YtdimfbmbomgiaaaVG16
namespace Go.Proofs.Ytdimfbmbomgiaaa
open Go.RowKit
attribute [local go_sem] Oper.semAt_some
/-- an ending: a number and an error -/
def RetNE (k : IntKind) (n err : Int) (w : World) (e : Ending) (w' : World) : Prop := e = .returned (.tuple #[.int k n, .int .i64 err]) ∧ Below w.heap.size w w'
/-- the period of a sheet and a shift: 0 where there is an error -/
def perR (p : Int) (ws : List Wk) (h : Int) : Int := if seE p ws h = 0 then ((Cyc.per (nxS ws (2 * p).toNat h.toNat) (2 * p).toNat : Nat) : Int) else 0
theorem postM_mark2 {P : Program} {fn : Func} {R : Ending → World → Prop} {a : Act} {w : World} {t u : Tmp} {D : Nat} {x y : Value} (hres : fn.results = #[.tmp t, .tmp u])
    (hx : a.tmps.getD t undef = x) (hy : a.tmps.getD u undef = y) (hd : a.defers = [{ target := .collected D, args := #[] }]) (hD : w.heap[D]? = some (.deferred (some [])))
    (hR : R (.returned (.tuple #[x, y])) (w.putObj D (.deferred none))) : bodyPostM Fence.wide 0 P fn R .ret a w := by
  show LeavesInM Fence.wide 0 P fn a.tmps R a.defers .returning w
  rw [hd]
  refine ⟨by simp, .inl ⟨_, _, rfl, run_takeDeferred hD, ?_⟩⟩
  exact ⟨.tuple #[x, y], by rw [results_tmp2 hres, hx, hy], hR⟩
/-- what holds between two rounds of Period -/
structure PerI (w0 b0 b : Nat) (w : World) (pre : List Lp) (W : World) : Prop where
  cell : Has W b 2 [.int .i64 ((Cyc.perTo (pre.map (·.2)) : Nat) : Int)]
  below : Below b0 w W
theorem perI_own {B w0 b0 b : Nat} {w : World} (hb : b0 ≤ B) (hw : b0 ≤ w.heap.size) : OwnFrom B (fun (pre : List Lp) W => PerI w0 b0 b w pre W) := fun pre W W' row hs hg hr => by
  obtain ⟨h1, h4⟩ := hs
  refine ⟨h1.same (hg.block _ h1.lt (h1.not_dead (fun r e => (hr r e).2))), ?_⟩
  refine ⟨hg.os.trans h4.os, hg.tape.trans h4.tape, hg.output.trans h4.output, Nat.le_trans h4.size hg.size, fun i hi => (hg.block i (Nat.lt_of_lt_of_le (Nat.lt_of_lt_of_le hi hw) h4.size) (fun e => ?_)).trans (h4.block i hi)⟩
  have := (hr i e.symm).1; omega
theorem PerI.keep {w0 b0 b hi : Nat} {w V V' : World} {pre : List Lp} (h : PerI w0 b0 b w pre V) (k : IterS w0 hi V V') (h1 : b < w0) (h3 : b0 ≤ w0) (hw : b0 ≤ w.heap.size) : PerI w0 b0 b w pre V' :=
  ⟨h.cell.same (k.same _ h.cell.lt (.inl h1)), k.os.trans h.below.os, k.tape.trans h.below.tape, k.output.trans h.below.output, Nat.le_trans h.below.size k.size, fun r hr => (k.same r (Nat.lt_of_lt_of_le (Nat.lt_of_lt_of_le hr hw) h.below.size) (.inl (by omega))).trans (h.below.block r hr)⟩
/-- the step of the period at a loop -/
theorem per_step {nx : Nat → Nat} {T : Nat} (P : Cyc.Perm nx T) (hT : T ≤ 48) {pre : List Lp} {x : Lp} (h : (pre ++ [x]).map (·.2) <+: Cyc.loops nx T) : 0 < Cyc.perTo (pre.map (·.2)) ∧ Cyc.perTo (pre.map (·.2)) ≤ 281474976710656 ∧ x.2.length ≤ 281474976710656 ∧ Nat.lcm (Cyc.perTo (pre.map (·.2))) x.2.length ≤ 281474976710656 ∧ Cyc.perTo ((pre ++ [x]).map (·.2)) = Nat.lcm (Cyc.perTo (pre.map (·.2))) x.2.length := by
  have e : (pre ++ [x]).map (·.2) = pre.map (·.2) ++ [x.2] := by rw [List.map_append]; rfl
  have h1 := List.prefix_iff_eq_take.1 h
  have h2 := Cyc.per_take P hT ((pre ++ [x]).map (·.2)).length
  rw [← h1] at h2
  have h3 : pre.map (·.2) <+: Cyc.loops nx T := (List.prefix_append _ _).trans (by rw [← e]; exact h)
  have h4 := Cyc.per_take P hT (pre.map (·.2)).length
  rw [← List.prefix_iff_eq_take.1 h3] at h4
  have h5 : Cyc.perTo ((pre ++ [x]).map (·.2)) = Nat.lcm (Cyc.perTo (pre.map (·.2))) x.2.length := by rw [e, Cyc.perTo_app]
  have h6 : x.2.length ∣ Cyc.perTo ((pre ++ [x]).map (·.2)) := by rw [h5]; exact Nat.dvd_lcm_right _ _
  refine ⟨h4.1, h4.2, Nat.le_trans (Nat.le_of_dvd h2.1 h6) h2.2, by rw [← h5]; exact h2.2, h5⟩
set_option maxRecDepth 100000 in
set_option maxHeartbeats 4000000 in
theorem period19 (p : Int) (A : Option Addr) (n c : Nat) (h : Int) (ws : List Wk) (w : World) (hn : n ≤ 9223372036854775807) (hw : RdW w w.heap.size A ws) (hl : ws.length = n)
    (hs : ∀ x ∈ ws, x.word.size ≤ 9223372036854775807) :
    Calls Try.prog 19 #[.agg #[.int .i64 p, .slice A n c], .int .i64 h] w (RetNE .i64 (perR p ws h) (seE p ws h) w) := by
  have CA := Lib.hid (fun (W : World) (hb : Below w.heap.size w W) => asked31 p A n c h ws W hn (hw.up hb) hl hs)
  have K0 : Has (w.alloc (.cells #[.int .i64 p, .slice A n c] 24)) w.heap.size 24 [.int .i64 p, .slice A n c] := Has.new rfl
  by_cases hE : seE p ws h = 0
  case neg =>
    have e : perR p ws h = 0 := by unfold perR; rw [if_neg hE]
    rw [e]
    have hd : (seE p ws h != 0) = true := by simpa using hE
    generalize seE p ws h = q at *
    clear hE e hw hl hs
    refine (callsIn_wide (n := 0)).1 (callsIn_of_wp_marks Try.func19 rfl trivial ?_)
    simp only [Try.ntmps19, List.size_toArray, List.length_cons, List.length_nil, Nat.reduceAdd, Nat.reduceSub, Array.replicate_succ, Array.replicate_zero, List.push_toArray, List.append_toArray, List.nil_append, List.cons_append]
    refine wpIn_wide.2 ?_
    go_wp2_with fail
    refine (CA.out _ (by go_grown)).mono ?_
    rintro e w1 ⟨rfl, hb1⟩
    have B1 : Below w.heap.size w w1 := bvia (show Below w.heap.size w _ by go_grown) hb1
    go_wp2
    refine ⟨_, results_tmp2 rfl _ _ _, ?_⟩
    exact ⟨rfl, B1⟩
  have hR : perR p ws h = ((Cyc.per (nxS ws (2 * p).toNat h.toNat) (2 * p).toNat : Nat) : Int) := by unfold perR; rw [if_pos hE]
  obtain ⟨g1, g2, g3⟩ := seE_zero hE
  obtain ⟨H, rfl⟩ := Int.eq_ofNat_of_zero_le g2
  rw [show ((H : Nat) : Int).toNat = H by simp] at hR
  rw [hR]
  rw [hE] at CA ⊢
  have HOK := Lib.hid (schk_zero g1)
  have CE := Lib.hid (fun (W : World) (hb : Below w.heap.size w W) => ends35 p A n c ws W hn (hw.up hb) hl g1)
  have CS := Lib.hid (fun (A' : Option Addr) (c' : Nat) (W : World) (hr : RdI W W.heap.size A' (endL ws (2 * p).toNat)) => sewn34 p A A' n c c' H ws W hr g1 g3)
  clear hE hR g1 g2 g3 hw hl hs
  refine (callsIn_wide (n := 0)).1 (callsIn_of_wp_marks Try.func19 rfl trivial ?_)
  simp only [Try.ntmps19, List.size_toArray, List.length_cons, List.length_nil, Nat.reduceAdd, Nat.reduceSub, Array.replicate_succ, Array.replicate_zero, List.push_toArray, List.append_toArray, List.nil_append, List.cons_append]
  refine wpIn_wide.2 ?_
  go_wp2_with fail
  refine (CA.out _ (by go_grown)).mono ?_
  rintro e w1 ⟨rfl, hb1⟩
  have HB := Lib.hid (bvia (show Below w.heap.size w _ by go_grown) hb1)
  have HK := Lib.hid (K0.below hb1 K0.lt)
  have n0 : w1.cell? ⟨w.heap.size, 0, none⟩ = some (.int .i64 p) := HK.out.cell 0
  have n1 : w1.cell? ⟨w.heap.size, 1, none⟩ = some (.slice A n c) := HK.out.cell 1
  have q0 := HK.out.lt
  clear K0 hb1
  go_wp2
  have K5 : Has (w1.alloc (.cells #[.int .i64 1] 2)) w1.heap.size 2 [.int .i64 1] := Has.new rfl
  have B5 : Below w1.heap.size w1 (w1.alloc (.cells #[.int .i64 1] 2)) := by go_grown
  obtain ⟨w2, hw2⟩ : ∃ w2, w2 = w1.alloc (.cells #[.int .i64 1] 2) := ⟨_, rfl⟩
  rw [← hw2] at K5 B5 ⊢
  obtain ⟨gn, hgn⟩ : ∃ g, g = w1.heap.size := ⟨_, rfl⟩
  have hgn0 : w.heap.size < gn := by rw [hgn]; exact q0
  rw [← hgn] at K5 ⊢
  have HB2 := Lib.hid (bvia HB.out B5)
  have HK2 := Lib.hid (HK.out.below B5 HK.out.lt)
  clear hw2 hgn n0 n1 HB HK B5
  have n0 : w2.cell? ⟨w.heap.size, 0, none⟩ = some (.int .i64 p) := HK2.out.cell 0
  have n1 : w2.cell? ⟨w.heap.size, 1, none⟩ = some (.slice A n c) := HK2.out.cell 1
  have q0 := HK2.out.lt
  have HDN := Lib.hid HK2.out.drew
  have HKN := Lib.hid K5.drew
  clear K5
  go_region_held3 (fun W => W.cell? ⟨w.heap.size, 0, none⟩ = some (.int .i64 p) ∧ W.cell? ⟨w.heap.size, 1, none⟩ = some (.slice A n c)) (first | exact ⟨by assumption, by assumption⟩ | go_keep) (first
    | (go_simp; go_at_call 35; refine (CE.out _ (below_drewN HB2.out _)).mono ?_; rintro e w3 ⟨A3, n3, c3, rfl, hr3, hl3, hn3, hc3, hb3⟩; rw [endL_len] at hl3; subst hl3; have HK3 := HDN.out.below hb3 HDN.out.lt; have HN3 := HKN.out.below hb3 HKN.out.lt; have m0 := HK3.cell 0; have m1 := HK3.cell 1; have B3 := (below_drewN HB2.out 1).trans (hb3.mono (Nat.le_trans HB2.out.size (Nat.le_refl _))))
    | (go_simp; go_at_call 34; refine (CS.out _ _ _ hr3).mono ?_; rintro e w4 ⟨g4, rfl, hg4, hG4, hb4⟩; have HK4 := HK3.below hb4 HK3.lt; have HN4 := HN3.below hb4 HN3.lt; have m2 := HK4.cell 0; have m3 := HK4.cell 1; have B4 := bvia B3 hb4)
    | (go_simp; go_at_call 36; refine (loops36 _ _).mono ?_; rintro e w5 ⟨rfl, hX5, hb5⟩; have HK5 := HK4.below hb5 HK4.lt; have HN5 := HN4.below hb5 HN4.lt; have m4 := HK5.cell 0; have m5 := HK5.cell 1; have B5 := bvia B4 hb5; have hS5 := Seam.of HOK.out hX5 (hG4.below hb5 hG4.lt))
    | fail)
  have HS5 := Lib.hid hS5
  have HB5 := Lib.hid B5
  have HNN := Lib.hid HN5
  have hg5 : gn < w4.heap.size := HN4.lt
  have hg6 : gn < g4 := by have := HN3.lt; omega
  have hg7 : g4 < w5.heap.size := hS5.seam.lt
  have hg8 : w4.heap.size < w5.heap.size := hX5.lt
  clear n0 n1 m0 m1 m2 m3 m4 m5 hS5 B5 B4 B3 HK3 HK4 HK5 HN3 HN4 HN5 hG4 hb3 hb4 hb5 hX5 hr3
  go_wp2
  refine wpIn_wide.1 (range_lawK (n := 0) (gf := 54) (lb := #[.pointer (some ⟨w4.heap.size, 0, none⟩)]) rfl Try.call54 encL (fun _ => rfl) (fun _ pre W => PerI w5.heap.size w.heap.size gn w pre W) (fun ys => ys.map (·.2) = Cyc.loops (nxS ws (2 * p).toNat H) (2 * p).toNat) (fun hi pre x W => (pre ++ [x]).map (·.2) <+: Cyc.loops (nxS ws (2 * p).toNat H) (2 * p).toNat ∧ w5.heap.size ≤ hi) (KeepS gn w5.heap.size) (fun _ _ _ _ _ h k => h.trans k) (fun _ _ _ _ _ _ _ => KeepS.put _ _ _ _ _ _) (fun _ => perI_own HB5.out.size (Nat.le_refl _)) ⟨HNN.out, HB5.out⟩ ?iter ?rnd ?done)
  case iter =>
    intro l dd r0 W hd1 hd2 hKB hMid hY
    have hks := hKB.1
    have hlW := (Array.getElem?_eq_some_iff.1 hMid.rec_).1
    have hbox := (cell_same (a := ⟨w4.heap.size, 0, none⟩) (hKB.2 w4.heap.size hg8 (by omega))).trans HS5.out.box
    have hseam := HS5.out.seam.same (hKB.2 g4 hg7 (by omega))
    refine callsIn_wide.2 ((iterS (fun hi pre W => PerI w5.heap.size w.heap.size gn w pre W ∧ w5.heap.size ≤ hi) l dd gn w5.heap.size w4.heap.size g4 (2 * p).toNat r0 _ _ W HS5.out.T48 HS5.out.perm HS5.out.get HS5.out.len ?_ hlW hks (by omega) hg8 (by omega) hg7 (by omega) hbox hseam ⟨⟨hMid.inv, Nat.le_refl _⟩, hMid.rec_, hMid.dfr⟩ ?_).mono ?_)
    · exact fun hi pre V V' h hk _ => ⟨h.1.keep hk (by omega) HB5.out.size (Nat.le_refl _), h.2⟩
    · exact fun hi pre x W1 hpre hok htop hmid => (hY hi pre x W1 ⟨hpre, hmid.inv.2⟩ htop ⟨hmid.inv.1, hmid.rec_, hmid.dfr⟩).mono fun e W' ⟨h1, h2, h3⟩ => ⟨h1, ⟨⟨h2.inv, Nat.le_trans hmid.inv.2 (Nat.le_trans htop h3.1)⟩, h2.rec_, h2.dfr⟩, h3⟩
    · rintro e W' ⟨hv, hi, xs, hx, h⟩
      exact ⟨hv, hi, xs, hx, ⟨h.inv.1, h.rec_, h.dfr⟩⟩
  case done =>
    rintro D hi xs' W hD hxs ⟨j1, j4⟩ hDf
    rw [hxs] at j1
    have e0 := j1.cell 0
    have q5 := j1.lt
    have hle : w.heap.size ≤ D := Nat.le_trans HB5.out.size hD
    have HPR : Hid (Cyc.perTo (Cyc.loops (nxS ws (2 * p).toNat H) (2 * p).toNat) = Cyc.per (nxS ws (2 * p).toNat H) (2 * p).toNat) := rfl
    clear hxs
    go_wp2
    refine postM_mark2 rfl rfl rfl rfl hDf ?_
    exact ⟨rfl, below_put j4 hle _⟩
  case rnd =>
    rintro hi l pre x W o ⟨hpre, hwh⟩ hl htop ⟨j1, j4⟩ hWl ho
    obtain ⟨p1, p2, p3, p4, p5⟩ := per_step HS5.out.perm HS5.out.T48 hpre
    have HP5 := Lib.hid p5
    have hll := (Array.getElem?_eq_some_iff.1 hWl).1
    have hsz1 := j4.size
    have q5 := j1.lt
    clear hpre p5
    dsimp only [encL]
    gi_wp2
    refine ⟨KeepsOthers.refl _, ⟨Nat.le_refl _, fun _ _ _ _ => rfl⟩, fun o' ho' => ?_⟩
    have Y4 := j1.same (w' := W.putObj l o') (World.putObj_heap_other (by omega))
    have Y5 := below_put j4 (D := l) (Nat.le_trans HB5.out.size (by omega)) o'
    have hYs : W.heap.size = (W.putObj l o').heap.size := by simp [World.putObj]
    have hYl : (W.putObj l o').heap[l]? = some o' := World.putObj_heap_same hll
    clear j1 j4 hWl
    generalize W.putObj l o' = Y at *
    have e0 : Y.cell? ⟨gn, 0, none⟩ = some (.int .i64 ((Cyc.perTo (pre.map (·.2)) : Nat) : Int)) := Y4.cell 0
    have q6 := Y4.lt
    have HY4 := Lib.hid Y4
    have HY5 := Lib.hid Y5
    have CC := Lib.hid (common40 (Cyc.perTo (pre.map (·.2))) x.2.length Y p1 (by omega) (by omega) (by omega))
    generalize Cyc.perTo (pre.map (·.2)) = a at *
    clear Y4 Y5 p1 p2 p3 p4
    gi_wp2
    refine ⟨trivial, rfl, CallsIn.mono (CallsIn.inRound _ (callsIn_wide.2 CC.out)) ?_⟩
    rintro e W8 ⟨rfl, hb8⟩
    have H8 := HY4.out.below hb8 HY4.out.lt
    have f8 := H8.free 0
    have e8 := H8.cell 0
    have q8 := H8.lt
    clear CC e0
    gi_wp2
    refine ⟨?_, ⟨?_, fun r hr _ hx => ?_⟩, ?_, ?_⟩
    · exact KeepsOthers.trans ⟨hb8.size, fun j o hj _ => (hb8.block j (Array.getElem?_eq_some_iff.1 hj).1).trans hj⟩ (KeepsOthers.setCell _ _ _)
    · have := hb8.size; simpa [World.setCell] using this
    · refine (Below.heap_setCell W8 ⟨gn, 0, none⟩ _ r (show r ≠ gn from ?_)).trans (hb8.block r hr)
      rcases hx with hx | hx | ⟨cs, hx⟩
      · exact hx.2
      · omega
      · exact fun e => by rw [e] at hx; exact absurd (HY4.out.of_type hx) (by decide)
    · rw [HP5.out]; exact H8.set 0 _
    · exact (bvia HY5.out hb8).setCell (show w.heap.size ≤ gn by omega) _
end Go.Proofs.Ytdimfbmbomgiaaa
/-
  Contract of seams.Fewest.
-/
namespace Go.Proofs.Ytdimfbmbomgiaaa
open Go.RowKit
attribute [local go_sem] Oper.semAt_some
/-- the blocks of the rounds' deferred calls, marked as run -/
def finW (W : World) : List Nat → World
  | [] => W
  | D :: Ds => finW (W.putObj D (.deferred none)) Ds
def marks (Ds : List Nat) : List Deferred := Ds.map fun D => { target := .collected D, args := #[] }
theorem leaves_marks {P : Program} {fn : Func} {tmps : Array Value} {R : Ending → World → Prop} : ∀ (Ds : List Nat) (W : World), Ds.Nodup → (∀ D ∈ Ds, W.heap[D]? = some (.deferred (some []))) → (∃ v, (results fn tmps).run P (finW W Ds) = .ok v (finW W Ds) ∧ R (.returned v) (finW W Ds)) → LeavesInM Fence.wide 0 P fn tmps R (marks Ds) .returning W
  | [], W, _, _, h => h
  | D :: Ds, W, hn, hd, h => by
    obtain ⟨h1, h2⟩ := List.nodup_cons.1 hn
    refine ⟨by simp, .inl ⟨_, _, rfl, run_takeDeferred (hd D (by simp)), ?_⟩⟩
    exact leaves_marks Ds _ h2 (fun E hE => (World.putObj_heap_other (fun e => h1 (by rw [← e]; exact hE))).trans (hd E (by simp [hE]))) h
theorem below_fin {B : Nat} {a : World} : ∀ (Ds : List Nat) (W : World), Below B a W → (∀ D ∈ Ds, B ≤ D) → Below B a (finW W Ds)
  | [], _, h, _ => h
  | D :: Ds, W, h, hd => below_fin Ds _ (below_put h (hd D (by simp)) _) (fun E hE => hd E (by simp [hE]))
/-- the first shift with the fewest of f's numbers, of the shifts below h -/
def fewTo (f : Nat → Nat) : Nat → Nat × Nat
  | 0 => (0, 0)
  | h + 1 => if h = 0 ∨ f h < (fewTo f h).2 then (h, f h) else fewTo f h
def fewR (p : Int) (ws : List Wk) : Nat × Nat := if schk p ws = 0 then fewTo (fun h => (loopsS ws (2 * p).toNat h).length) p.toNat else (0, 0)
theorem loops_le {nx : Nat → Nat} {T : Nat} (P : Cyc.Perm nx T) (hT : T ≤ 48) : (Cyc.loops nx T).length ≤ 48 := by
  have h1 := Cyc.loops_total P
  have h3 : ∀ (ls : List (List Nat)), (∀ l ∈ ls, 0 < l.length) → ls.length ≤ (ls.map List.length).sum := fun ls => by
    induction ls with
    | nil => intro _; simp
    | cons x ls ih =>
      intro h
      have := ih (fun l hl => h l (by simp [hl]))
      have := h x (by simp)
      simp only [List.length_cons, List.map_cons, List.sum_cons]; omega
  have := h3 _ (Cyc.loops_pos P)
  omega
/-- what holds between two rounds -/
structure FewI (w0 b0 b : Nat) (Ds : List Nat) (w : World) (pre : List Lp) (W : World) : Prop where
  cell : Has W b 3 [.int .i64 ((pre.length : Nat) : Int)]
  below : Below b0 w W
  dead : ∀ D ∈ Ds, W.heap[D]? = some (.deferred (some []))
theorem fewI_own {B w0 b0 b : Nat} {Ds : List Nat} {w : World} (hb : b0 ≤ B) (hw : b0 ≤ w.heap.size) (hD : ∀ D ∈ Ds, D < B) : OwnFrom B (fun (pre : List Lp) W => FewI w0 b0 b Ds w pre W) := fun pre W W' row hs hg hr => by
  obtain ⟨h1, h4, h5⟩ := hs
  refine ⟨h1.same (hg.block _ h1.lt (h1.not_dead (fun r e => (hr r e).2))), ?_, fun D hd => ?_⟩
  · refine ⟨hg.os.trans h4.os, hg.tape.trans h4.tape, hg.output.trans h4.output, Nat.le_trans h4.size hg.size, fun i hi => (hg.block i (Nat.lt_of_lt_of_le (Nat.lt_of_lt_of_le hi hw) h4.size) (fun e => ?_)).trans (h4.block i hi)⟩
    have := (hr i e.symm).1; omega
  · refine (hg.block D (Array.getElem?_eq_some_iff.1 (h5 D hd)).1 (fun e => ?_)).trans (h5 D hd)
    have := (hr D e.symm).1; have := hD D hd; omega
theorem FewI.keep {w0 b0 b hi : Nat} {Ds : List Nat} {w V V' : World} {pre : List Lp} (h : FewI w0 b0 b Ds w pre V) (k : IterS w0 hi V V') (h1 : b < w0) (h3 : b0 ≤ w0) (hw : b0 ≤ w.heap.size) (hD : ∀ D ∈ Ds, D < w0) : FewI w0 b0 b Ds w pre V' :=
  ⟨h.cell.same (k.same _ h.cell.lt (.inl h1)), ⟨k.os.trans h.below.os, k.tape.trans h.below.tape, k.output.trans h.below.output, Nat.le_trans h.below.size k.size, fun r hr => (k.same r (Nat.lt_of_lt_of_le (Nat.lt_of_lt_of_le hr hw) h.below.size) (.inl (by omega))).trans (h.below.block r hr)⟩, fun D hd => (k.same D (Array.getElem?_eq_some_iff.1 (h.dead D hd)).1 (.inl (hD D hd))).trans (h.dead D hd)⟩
set_option maxRecDepth 100000 in
set_option maxHeartbeats 4000000 in
theorem fewest21 (p : Int) (A : Option Addr) (n c : Nat) (ws : List Wk) (w : World) (hn : n ≤ 9223372036854775807) (hw : RdW w w.heap.size A ws) (hl : ws.length = n)
    (hs : ∀ x ∈ ws, x.word.size ≤ 9223372036854775807) :
    Calls Try.prog 21 #[.agg #[.int .i64 p, .slice A n c]] w fun e w' => e = .returned (.tuple #[.int .i64 ((fewR p ws).1 : Int), .int .i64 ((fewR p ws).2 : Int), .int .i64 (schk p ws)]) ∧ Below w.heap.size w w' := by
  have CA := Lib.hid (fun (W : World) (hb : Below w.heap.size w W) => shCheck p A n c ws W hn (hw.up hb) hl hs)
  have K0 : Has (w.alloc (.cells #[.int .i64 p, .slice A n c] 24)) w.heap.size 24 [.int .i64 p, .slice A n c] := Has.new rfl
  by_cases hE : schk p ws = 0
  case neg =>
    have e : fewR p ws = (0, 0) := by unfold fewR; rw [if_neg hE]
    rw [e]
    have hd : (schk p ws != 0) = true := by simpa using hE
    generalize schk p ws = q at *
    clear hE e hw hl hs
    refine (callsIn_wide (n := 0)).1 (callsIn_of_wp_marks Try.func21 rfl trivial ?_)
    simp only [Try.ntmps21, List.size_toArray, List.length_cons, List.length_nil, Nat.reduceAdd, Nat.reduceSub, Array.replicate_succ, Array.replicate_zero, List.push_toArray, List.append_toArray, List.nil_append, List.cons_append]
    refine wpIn_wide.2 ?_
    go_wp2_with fail
    refine (CA.out _ (by go_grown)).mono ?_
    rintro e w1 ⟨rfl, hb1⟩
    have B1 : Below w.heap.size w w1 := bvia (show Below w.heap.size w _ by go_grown) hb1
    go_wp2
    refine ⟨_, results_tmp3 rfl _ _ _, ?_⟩
    exact ⟨rfl, B1⟩
  obtain ⟨P, rfl⟩ := Int.eq_ofNat_of_zero_le (show 0 ≤ p by have := (schk_zero hE).ge; omega)
  have hR : fewR (P : Int) ws = fewTo (fun h => (loopsS ws (2 * (P : Int)).toNat h).length) P := by unfold fewR; rw [if_pos hE]; simp
  have CE := Lib.hid (fun (W : World) (hb : Below w.heap.size w W) => ends35 (P : Int) A n c ws W hn (hw.up hb) hl hE)
  have CS := Lib.hid (fun (A' : Option Addr) (c' H : Nat) (W : World) (hr : RdI W W.heap.size A' (endL ws (2 * (P : Int)).toNat)) (hH : H < P) => sewn34 (P : Int) A A' n c c' H ws W hr hE (by omega))
  have eT : (2 * (P : Int)).toNat = 2 * P := by omega
  rw [eT] at hR
  simp only [eT] at CE CS
  have HOK := Lib.hid (schk_zero hE)
  rw [hE] at CA ⊢
  have HET := Lib.hid eT
  clear eT
  rw [hR]
  clear hE hR hw hl hs
  refine (callsIn_wide (n := 0)).1 (callsIn_of_wp_marks Try.func21 rfl trivial ?_)
  simp only [Try.ntmps21, List.size_toArray, List.length_cons, List.length_nil, Nat.reduceAdd, Nat.reduceSub, Array.replicate_succ, Array.replicate_zero, List.push_toArray, List.append_toArray, List.nil_append, List.cons_append]
  refine wpIn_wide.2 ?_
  go_wp2_with fail
  refine (CA.out _ (by go_grown)).mono ?_
  rintro e w1 ⟨rfl, hb1⟩
  have HB := Lib.hid (bvia (show Below w.heap.size w _ by go_grown) hb1)
  have HK := Lib.hid (K0.below hb1 K0.lt)
  have n0 : w1.cell? ⟨w.heap.size, 0, none⟩ = some (.int .i64 (P : Int)) := HK.out.cell 0
  have n1 : w1.cell? ⟨w.heap.size, 1, none⟩ = some (.slice A n c) := HK.out.cell 1
  have q0 := HK.out.lt
  clear K0 hb1
  go_wp2_with fail
  refine (CE.out _ HB.out).mono ?_
  rintro e w3 ⟨A3, n3, c3, rfl, hr3, hl3, hn3, hc3, hb3⟩
  rw [endL_len] at hl3
  subst hl3
  have HK3 := Lib.hid (HK.out.below hb3 HK.out.lt)
  have HB3 := Lib.hid (bvia HB.out hb3)
  have HR3 := Lib.hid hr3
  clear n0 n1 q0 HK HB hb3 hr3 hn3
  have n0 : w3.cell? ⟨w.heap.size, 0, none⟩ = some (.int .i64 (P : Int)) := HK3.out.cell 0
  have n1 : w3.cell? ⟨w.heap.size, 1, none⟩ = some (.slice A n c) := HK3.out.cell 1
  have q0 := HK3.out.lt
  have hP : 2 ≤ P ∧ P ≤ 24 := by have := HOK.out.ge; have := HOK.out.le; omega
  go_wp2
  refine wp_loop (fun a' w' => ∃ (u2 u3 u7 u8 u18 u19 u20 u21 u22 u23 u24 u25 u26 u27 u28 u29 u30 u31 u32 u33 u34 u35 u36 u37 u38 : Value) (ds : List Deferred), (∃ (h : Nat) (Ds : List Nat), h ≤ P ∧ u18 = .int .i64 (h : Int) ∧ u2 = .int .i64 (((fewTo (fun h => (loopsS ws (2 * P) h).length) h).1 : Nat) : Int) ∧ u3 = .int .i64 (((fewTo (fun h => (loopsS ws (2 * P) h).length) h).2 : Nat) : Int) ∧ ds = marks Ds ∧ Hid Ds.Nodup ∧ Hid (∀ D ∈ Ds, w.heap.size ≤ D ∧ w'.heap[D]? = some (.deferred (some []))) ∧ Hid (Below w.heap.size w w') ∧ Hid (Has w' w.heap.size 24 [.int .i64 (P : Int), .slice A n c]) ∧ Hid (RdI w' w'.heap.size A3 (endL ws (2 * P)))) ∧ a' = { tmps := #[(.agg #[.int .i64 (P : Int), .slice A n c]), (.pointer (some ⟨w.heap.size, 0, none⟩)), u2, u3, .int .i64 0, .int .i64 0, .slice A3 (2 * P) c3, u7, u8, .agg #[.int .i64 (P : Int), .slice A n c], .int .i64 0, .int .i64 0, .bool false, undef, .agg #[.int .i64 (P : Int), .slice A n c], .slice A3 (2 * P) c3, .pointer (some ⟨w.heap.size, 0, none⟩), .int .i64 (P : Int), u18, u19, u20, u21, u22, u23, u24, u25, u26, u27, u28, u29, u30, u31, u32, u33, u34, u35, u36, u37, u38, undef, undef], defers := ds }) (fun a' _ => P - (intOf (a'.tmps.getD 18 undef)).toNat) ?_ ?_
  · (repeat apply Exists.intro)
    refine ⟨?_, rfl⟩
    exact ⟨0, [], Nat.zero_le _, rfl, rfl, rfl, rfl, List.nodup_nil, fun D hD => (by simp at hD), HB3, HK3, HR3⟩
  · clear HB3 HK3 HR3 n0 n1 q0
    rintro a' wr ⟨_, _, u7, u8, _, u19, u20, u21, u22, u23, u24, u25, u26, u27, u28, u29, u30, u31, u32, u33, u34, u35, u36, u37, u38, ds, ⟨h, Ds, hh, rfl, rfl, rfl, rfl, HND, HDS, HB, HK, HR⟩, rfl⟩
    obtain ⟨wo, rfl⟩ : ∃ wo : World, wo = wr := ⟨_, rfl⟩
    have n0 : wo.cell? ⟨w.heap.size, 0, none⟩ = some (.int .i64 (P : Int)) := HK.out.cell 0
    have n1 : wo.cell? ⟨w.heap.size, 1, none⟩ = some (.slice A n c) := HK.out.cell 1
    have q0 := HK.out.lt
    by_cases hlt : h < P
    · have jk : (h : Int) < (P : Int) := by omega
      have HN0 : Hid (Has (wo.alloc (.cells #[.int .i64 0] 3)) wo.heap.size 3 [.int .i64 0]) := Has.new rfl
      have BA : Below wo.heap.size wo (wo.alloc (.cells #[.int .i64 0] 3)) := by go_grown
      have HRA := Lib.hid (HR.out.up BA)
      have HBA := Lib.hid BA
      clear BA
      go_wp2_with fail
      refine (CS.out A3 c3 h _ HRA.out hlt).mono ?_
      rintro e w4 ⟨g4, rfl, hg4, hG4, hb4⟩
      have HG4 := Lib.hid hG4
      have hqn : wo.heap.size < w4.heap.size := (HN0.out.below hb4 HN0.out.lt).lt
      have HN4 := Lib.hid (HN0.out.below hb4 HN0.out.lt)
      have B4 := Lib.hid (bvia HBA.out hb4)
      have hg4' : wo.heap.size < g4 := by simp at hg4; omega
      clear hG4 hb4 hg4 HN0 HRA HBA
      go_wp2_with fail
      refine (loops36 _ _).mono ?_
      rintro e w5 ⟨rfl, hX5, hb5⟩
      have hS5 := Seam.of HOK.out hX5 (by rw [HET.out]; exact HG4.out.below hb5 HG4.out.lt)
      rw [HET.out] at hS5
      have HS5 := Lib.hid hS5
      have B5 := Lib.hid (bvia B4.out hb5)
      have HN5 := Lib.hid (HN4.out.below hb5 HN4.out.lt)
      have hx5 : w4.heap.size < w5.heap.size := hX5.lt
      have hg5 : g4 < w5.heap.size := hS5.seam.lt
      clear hS5 hX5 hb5 HG4 HN4 B4
      go_wp2
      refine wpIn_wide.1 (range_lawK (n := 0) (gf := 54) (lb := #[.pointer (some ⟨w4.heap.size, 0, none⟩)]) rfl Try.call54 encL (fun _ => rfl) (fun _ pre W => FewI w5.heap.size wo.heap.size wo.heap.size [] wo pre W) (fun ys => ys.map (·.2) = loopsS ws (2 * P) h) (fun hi pre x W => (pre ++ [x]).map (·.2) <+: loopsS ws (2 * P) h ∧ w5.heap.size ≤ hi) (KeepS wo.heap.size w5.heap.size) (fun _ _ _ _ _ h k => h.trans k) (fun _ _ _ _ _ _ _ => KeepS.put _ _ _ _ _ _) (fun _ => fewI_own (by omega) (Nat.le_refl _) (fun D hD => by simp at hD)) ⟨HN5.out, B5.out, fun D hD => (by simp at hD)⟩ ?iter ?rnd ?done)
      case iter =>
        intro l dd r0 W hd1 hd2 hKB hMid hY
        have hks := hKB.1
        have hlW := (Array.getElem?_eq_some_iff.1 hMid.rec_).1
        have hbox := (cell_same (a := ⟨w4.heap.size, 0, none⟩) (hKB.2 w4.heap.size hx5 (by omega))).trans HS5.out.box
        have hseam := HS5.out.seam.same (hKB.2 g4 hg5 (by omega))
        refine callsIn_wide.2 ((iterS (fun hi pre W => FewI w5.heap.size wo.heap.size wo.heap.size [] wo pre W ∧ w5.heap.size ≤ hi) l dd wo.heap.size w5.heap.size w4.heap.size g4 (2 * P) r0 _ _ W HS5.out.T48 HS5.out.perm HS5.out.get HS5.out.len ?_ hlW hks (by omega) hx5 (by omega) hg5 (by omega) hbox hseam ⟨⟨hMid.inv, Nat.le_refl _⟩, hMid.rec_, hMid.dfr⟩ ?_).mono ?_)
        · exact fun hi pre V V' h hk _ => ⟨h.1.keep hk (by omega) (by omega) (Nat.le_refl _) (fun D hD => by simp at hD), h.2⟩
        · exact fun hi pre x W1 hpre hok htop hmid => (hY hi pre x W1 ⟨hpre, hmid.inv.2⟩ htop ⟨hmid.inv.1, hmid.rec_, hmid.dfr⟩).mono fun e W' ⟨h1, h2, h3⟩ => ⟨h1, ⟨⟨h2.inv, Nat.le_trans hmid.inv.2 (Nat.le_trans htop h3.1)⟩, h2.rec_, h2.dfr⟩, h3⟩
        · rintro e W' ⟨hv, hi, xs, hx, h⟩
          exact ⟨hv, hi, xs, hx, ⟨h.inv.1, h.rec_, h.dfr⟩⟩
      case done =>
        rintro D hi xs' W hD hxs ⟨j1, j4, _⟩ hDf
        have hxl : xs'.length = (loopsS ws (2 * P) h).length := by rw [← hxs, List.length_map]
        rw [hxl] at j1
        have HBW : Hid (Below w.heap.size w W) := bvia HB.out j4
        have HKW : Hid (Has W w.heap.size 24 [.int .i64 (P : Int), .slice A n c]) := HK.out.below j4 HK.out.lt
        have HRW : Hid (RdI W W.heap.size A3 (endL ws (2 * P))) := HR.out.up j4
        have HDS' : Hid (∀ E ∈ D :: Ds, w.heap.size ≤ E ∧ W.heap[E]? = some (.deferred (some []))) := fun E hE => by
          rcases List.mem_cons.1 hE with rfl | hE
          · exact ⟨by omega, hDf⟩
          · have h1 := HDS.out E hE
            exact ⟨h1.1, (j4.block E (Array.getElem?_eq_some_iff.1 h1.2).1).trans h1.2⟩
        have HND' : Hid (D :: Ds).Nodup := List.nodup_cons.2 ⟨fun hm => by
          have h1 := (Array.getElem?_eq_some_iff.1 (HDS.out D hm).2).1
          omega, HND.out⟩
        have e0 : W.cell? ⟨wo.heap.size, 0, none⟩ = some (.int .i64 (((loopsS ws (2 * P) h).length : Nat) : Int)) := j1.cell 0
        have q5 := j1.lt
        obtain ⟨f, hf⟩ : ∃ f, f = fun h => (loopsS ws (2 * P) h).length := ⟨_, rfl⟩
        have hfh : (loopsS ws (2 * P) h).length = f h := by rw [hf]
        rw [← hf]
        rw [hfh] at e0
        have HFS : Hid (fewTo f (h + 1) = if h = 0 ∨ f h < (fewTo f h).2 then (h, f h) else fewTo f h) := rfl
        have HFF := Lib.hid hf
        clear hxl hxs j1 hfh n0 n1 HB HK HR HS5 B5 HN5 hf
        by_cases h0 : h = 0
        · subst h0
          have e1 : fewTo f (0 + 1) = (0, f 0) := by rw [HFS.out, if_pos (.inl rfl)]
          have HE1 := Lib.hid e1
          clear e1
          go_wp2
          go_region_held3 (fun W' => W'.cell? ⟨wo.heap.size, 0, none⟩ = some (.int .i64 ((f 0 : Nat) : Int))) (first | exact e0 | go_keep) (fail)
          go_wp2
          refine ⟨?_, ?measure⟩
          repeat apply Exists.intro
          refine ⟨?rel, rfl⟩
          case rel => exact ⟨0 + 1, D :: Ds, by omega, by go_num, by rw [← HFF.out, HE1.out]; rfl, by rw [← HFF.out, HE1.out], rfl, HND', HDS', HBW.out.drew, HKW.out.drew, HRW⟩
          case measure => simp [intOf]; omega
        · have d0 : ((h : Int) == 0) = false := by simp; omega
          by_cases h1 : f h < (fewTo f h).2
          · have e1 : fewTo f (h + 1) = (h, f h) := by rw [HFS.out, if_pos (.inr h1)]
            have HE1 := Lib.hid e1
            have d1 : decide (((f h : Nat) : Int) < (((fewTo f h).2 : Nat) : Int)) = true := decide_eq_true (by omega)
            clear e1
            go_wp2
            go_region_held3 (fun W' => W'.cell? ⟨wo.heap.size, 0, none⟩ = some (.int .i64 ((f h : Nat) : Int))) (first | exact e0 | go_keep) (fail)
            go_wp2
            refine ⟨?_, ?measure⟩
            repeat apply Exists.intro
            refine ⟨?rel, rfl⟩
            case rel => exact ⟨h + 1, D :: Ds, by omega, by go_num, by rw [← HFF.out, HE1.out], by rw [← HFF.out, HE1.out], rfl, HND', HDS', HBW.out.drew, HKW.out.drew, HRW⟩
            case measure => simp [intOf]; omega
          · have e1 : fewTo f (h + 1) = fewTo f h := by rw [HFS.out, if_neg (by rintro (h2 | h2); exact h0 h2; exact h1 h2)]
            have HE1 := Lib.hid e1
            have d1 : decide (((f h : Nat) : Int) < (((fewTo f h).2 : Nat) : Int)) = false := decide_eq_false (by omega)
            clear e1
            go_wp2
            refine ⟨?_, ?measure⟩
            repeat apply Exists.intro
            refine ⟨?rel, rfl⟩
            case rel => exact ⟨h + 1, D :: Ds, by omega, by go_num, by rw [← HFF.out, HE1.out], by rw [← HFF.out, HE1.out], rfl, HND', HDS', HBW, HKW, HRW⟩
            case measure => simp [intOf]; omega
      case rnd =>
        rintro hi l pre x W o ⟨hpre, hwh⟩ hl htop ⟨j1, j4, _⟩ hWl ho
        have hpl : pre.length ≤ 48 := by
          have h1 := hpre.length_le
          have h2 := loops_le HS5.out.perm HS5.out.T48
          rw [List.length_map, List.length_append, List.length_singleton] at h1
          have h3 : (loopsS ws (2 * P) h).length ≤ 48 := h2
          omega
        have hll := (Array.getElem?_eq_some_iff.1 hWl).1
        have hsz1 := j4.size
        have q5 := j1.lt
        clear hpre n0 n1
        dsimp only [encL]
        gi_wp2
        refine ⟨KeepsOthers.refl _, ⟨Nat.le_refl _, fun _ _ _ _ => rfl⟩, fun o' ho' => ?_⟩
        have Y4 := j1.same (w' := W.putObj l o') (World.putObj_heap_other (by omega))
        have Y5 := below_put j4 (D := l) (by omega) o'
        have hYl : (W.putObj l o').heap[l]? = some o' := World.putObj_heap_same hll
        clear j1 j4 hWl
        generalize W.putObj l o' = Y at *
        have e0 : Y.cell? ⟨wo.heap.size, 0, none⟩ = some (.int .i64 ((pre.length : Nat) : Int)) := Y4.cell 0
        have f0 := Y4.free 0
        have q6 := Y4.lt
        have HY4 := Lib.hid Y4
        have HY5 := Lib.hid Y5
        clear Y4 Y5
        gi_wp2
        refine ⟨KeepsOthers.setCell _ _ _, ⟨by simp [World.setCell], fun r hr _ hx => ?_⟩, ?_, ?_, fun D hD => (by simp at hD)⟩
        · refine Below.heap_setCell Y ⟨wo.heap.size, 0, none⟩ _ r (show r ≠ wo.heap.size from ?_)
          rcases hx with hx | hx | ⟨cs, hx⟩
          · exact hx.2
          · omega
          · exact fun e => by rw [e] at hx; exact absurd (HY4.out.of_type hx) (by decide)
        · rw [List.length_append, List.length_singleton]
          have h1 := HY4.out.set 0 (.int .i64 ((pre.length : Int) + 1))
          exact h1
        · exact HY5.out.setCell (Nat.le_refl _) _
    · obtain rfl : h = P := by omega
      go_wp2
      refine leaves_marks Ds _ HND.out (fun D hD => (HDS.out D hD).2) ⟨_, results_tmp3 rfl _ _ _, ?_⟩
      exact ⟨rfl, below_fin Ds _ HB.out (fun D hD => (HDS.out D hD).1)⟩
end Go.Proofs.Ytdimfbmbomgiaaa
/-
  Contract of torchonref24.Fewest.
-/
namespace Go.Proofs.Ytdimfbmbomgiaaa
open Go.RowKit
set_option maxRecDepth 100000 in
set_option maxHeartbeats 4000000 in
theorem fewest22 (p : Int) (A : Option Addr) (n c : Nat) (ws : List Wk) (w : World) (hn : n ≤ 9223372036854775807) (hw : RdW w w.heap.size A ws) (hl : ws.length = n)
    (hs : ∀ x ∈ ws, x.word.size ≤ 9223372036854775807) :
    Calls Try.prog 22 #[.agg #[.int .i64 p, .slice A n c]] w fun e w' => e = .returned (.tuple #[.int .i64 ((fewR p ws).1 : Int), .int .i64 ((fewR p ws).2 : Int), .int .i64 (schk p ws)]) ∧ Below w.heap.size w w' := by
  have CA := Lib.hid (fun (W : World) (hb : Below w.heap.size w W) => check04 p A n c ws W hn (hw.up hb) hl hs)
  have K0 : Has (w.alloc (.cells #[.int .i64 p, .slice A n c] 24)) w.heap.size 24 [.int .i64 p, .slice A n c] := Has.new rfl
  by_cases hE : schk p ws = 0
  case neg =>
    have e : fewR p ws = (0, 0) := by unfold fewR; rw [if_neg hE]
    rw [e]
    have hd : (schk p ws != 0) = true := by simpa using hE
    generalize schk p ws = q at *
    clear hE e hw hl hs
    go_enter Try.func22, Try.ntmps22
    go_wp2_with fail
    refine (CA.out _ (by go_grown)).mono ?_
    rintro e w1 ⟨rfl, hb1⟩
    have B1 : Below w.heap.size w w1 := bvia (show Below w.heap.size w _ by go_grown) hb1
    go_wp2
    refine bodyPost_ret (results_tmp3 rfl _ _ _) rfl ?_
    exact ⟨rfl, B1⟩
  obtain ⟨P, rfl⟩ := Int.eq_ofNat_of_zero_le (show 0 ≤ p by have := (schk_zero hE).ge; omega)
  have hR : fewR (P : Int) ws = fewTo (fun h => (loopsS ws (2 * (P : Int)).toNat h).length) P := by unfold fewR; rw [if_pos hE]; simp
  have CJ := Lib.hid (fun (H : Nat) (W : World) (hb : Below w.heap.size w W) (hH : H < P) => joints38 (P : Int) A n c H ws W hn (hw.up hb) hl hE (by omega))
  have eT : (2 * (P : Int)).toNat = 2 * P := by omega
  have HOK := Lib.hid (schk_zero hE)
  have CL := Lib.hid (fun (H d : Nat) (A' : Option Addr) (W : World) (hr : RdI W W.heap.size A' (nxL ws (2 * (P : Int)).toNat H (2 * (P : Int)).toNat)) => loops37s (d := d) HOK.out A' W hr)
  rw [eT] at hR
  simp only [eT] at CJ CL
  obtain ⟨f, hf⟩ : ∃ f, f = fun h => (loopsS ws (2 * P) h).length := ⟨_, rfl⟩
  rw [← hf] at hR
  have HF : Hid (∀ h, (loopsS ws (2 * P) h).length = f h) := fun h => by rw [hf]
  rw [hE] at CA ⊢
  rw [hR]
  have hP : 2 ≤ P ∧ P ≤ 24 := by have := HOK.out.ge; have := HOK.out.le; omega
  have HF1 : Hid (fewTo f 1 = (0, f 0)) := rfl
  clear hE hR hw hl hs eT hf
  go_enter Try.func22, Try.ntmps22
  go_wp2_with fail
  refine (CA.out _ (by go_grown)).mono ?_
  rintro e w1 ⟨rfl, hb1⟩
  have HB := Lib.hid (bvia (show Below w.heap.size w _ by go_grown) hb1)
  have HK := Lib.hid (K0.below hb1 K0.lt)
  have n0 : w1.cell? ⟨w.heap.size, 0, none⟩ = some (.int .i64 (P : Int)) := HK.out.cell 0
  have n1 : w1.cell? ⟨w.heap.size, 1, none⟩ = some (.slice A n c) := HK.out.cell 1
  have q0 := HK.out.lt
  clear K0 hb1
  go_wp2_with fail
  refine (CJ.out 0 _ HB.out (by omega)).mono ?_
  rintro e w3 ⟨A3, n3, c3, rfl, hr3, hl3, hn3, hc3, hb3⟩
  rw [nxL_len] at hl3
  subst hl3
  have HK3 := Lib.hid (HK.out.below hb3 HK.out.lt)
  have HB3 := Lib.hid (bvia HB.out hb3)
  have HR3 := Lib.hid hr3
  clear n0 n1 q0 HK HB hb3 hr3 hn3
  go_wp2_with fail
  refine (CL.out 0 c3 A3 _ HR3.out).mono ?_
  rintro e w4 ⟨A4, n4, c4, rfl, _, hl4, hn4, hc4, hb4⟩
  rw [HF.out] at hl4
  subst hl4
  have HK4 := Lib.hid (HK3.out.below hb4 HK3.out.lt)
  have HB4 := Lib.hid (bvia HB3.out hb4)
  clear hb4 HK3 HB3 HR3
  go_wp2
  go_loopw [6, 7, 8] (fun u v x wr => ∃ h : Nat, 1 ≤ h ∧ h ≤ P ∧ x = .int .i64 (h : Int) ∧ u = .int .i64 (((fewTo f h).1 : Nat) : Int) ∧ v = .int .i64 (((fewTo f h).2 : Nat) : Int) ∧ Hid (Below w.heap.size w wr) ∧ Hid (Has wr w.heap.size 24 [.int .i64 (P : Int), .slice A n c])) (fun _ _ x _ => P - (intOf x).toNat)
  case atStart => exact ⟨1, Nat.le_refl _, by omega, rfl, by rw [HF1.out]; rfl, by rw [HF1.out], HB4, HK4⟩
  case round =>
    clear HB4 HK4
    obtain ⟨h, h1, hh, rfl, rfl, rfl, HB, HK⟩ := hrel
    obtain ⟨wo, rfl⟩ : ∃ wo : World, wo = wr := ⟨_, rfl⟩
    have n0 : wo.cell? ⟨w.heap.size, 0, none⟩ = some (.int .i64 (P : Int)) := HK.out.cell 0
    have n1 : wo.cell? ⟨w.heap.size, 1, none⟩ = some (.slice A n c) := HK.out.cell 1
    have q0 := HK.out.lt
    by_cases hlt : h < P
    · have jk : (h : Int) < (P : Int) := by omega
      have HFS : Hid (fewTo f (h + 1) = if h = 0 ∨ f h < (fewTo f h).2 then (h, f h) else fewTo f h) := rfl
      go_wp2_with fail
      refine (CJ.out h _ HB.out hlt).mono ?_
      rintro e w5 ⟨A5, n5, c5, rfl, hr5, hl5, hn5, hc5, hb5⟩
      rw [nxL_len] at hl5
      subst hl5
      have HK5 := Lib.hid (HK.out.below hb5 HK.out.lt)
      have HB5 := Lib.hid (bvia HB.out hb5)
      have HR5 := Lib.hid hr5
      clear n0 n1 q0 HK HB hb5 hr5 hn5
      go_wp2_with fail
      refine (CL.out h c5 A5 _ HR5.out).mono ?_
      rintro e w6 ⟨A6, n6, c6, rfl, _, hl6, hn6, hc6, hb6⟩
      rw [HF.out] at hl6
      subst hl6
      have HK6 := Lib.hid (HK5.out.below hb6 HK5.out.lt)
      have HB6 := Lib.hid (bvia HB5.out hb6)
      clear hb6 HK5 HB5 HR5
      by_cases h2 : f h < (fewTo f h).2
      · have e1 : fewTo f (h + 1) = (h, f h) := by rw [HFS.out, if_pos (.inr h2)]
        have HE1 := Lib.hid e1
        have d1 : decide (((f h : Nat) : Int) < (((fewTo f h).2 : Nat) : Int)) = true := decide_eq_true (by omega)
        clear e1
        go_wp2
        go_roundw
        case rel => exact ⟨h + 1, by omega, by omega, by go_num, by rw [HE1.out], by rw [HE1.out], HB6, HK6⟩
        case measure => first | (simp [intOf]; done) | (simp [intOf]; omega)
      · have e1 : fewTo f (h + 1) = fewTo f h := by rw [HFS.out, if_neg (by omega)]
        have HE1 := Lib.hid e1
        have d1 : decide (((f h : Nat) : Int) < (((fewTo f h).2 : Nat) : Int)) = false := decide_eq_false (by omega)
        clear e1
        go_wp2
        go_roundw
        case rel => exact ⟨h + 1, by omega, by omega, by go_num, by rw [HE1.out], by rw [HE1.out], HB6, HK6⟩
        case measure => first | (simp [intOf]; done) | (simp [intOf]; omega)
    · obtain rfl : h = P := by omega
      go_wp2
      refine bodyPost_ret (results_tmp3 rfl _ _ _) rfl ?_
      exact ⟨rfl, HB.out⟩
end Go.Proofs.Ytdimfbmbomgiaaa
