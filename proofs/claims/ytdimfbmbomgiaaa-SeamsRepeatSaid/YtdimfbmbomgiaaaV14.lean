/-
  Contract of seams.Fewest.
-/
import Derived.Test.YtdimfbmbomgiaaaV1
import Derived.Test.YtdimfbmbomgiaaaV10
import Derived.Test.YtdimfbmbomgiaaaV11
import Derived.Test.YtdimfbmbomgiaaaV13
import Derived.BigGuardPart
import Derived.Laws.StructEq
namespace Go.Proofs.Ytdimfbmbomgiaaa
open Go.RowKit
attribute [local go_sem] Oper.semAt_some
/-- the blocks of the rounds' deferred calls, marked as run -/
def finW (W : World) : List Nat → World
  | [] => W
  | D :: Ds => finW (W.putObj D (.deferred none)) Ds
def marks (Ds : List Nat) : List Deferred := Ds.map fun D => { target := .collected D, args := #[] }
theorem leaves_marks {P : Program} {fn : Func} {tmps : Array Value} {R : Ending → World → Prop} : ∀ (Ds : List Nat) (W : World), Ds.Nodup → (∀ D ∈ Ds, W.heap[D]? = some (.deferred (some []))) → (∃ v, (results fn tmps).run P (finW W Ds) = .ok v (finW W Ds) ∧ R (.returned v) (finW W Ds)) → LeavesInM Fence.wide 0 P fn tmps R (marks Ds) .returning W
  | [], W, _, _, h => h
  | D :: Ds, W, hn, hd, h => by
    obtain ⟨h1, h2⟩ := List.nodup_cons.1 hn
    refine ⟨by simp, .inl ⟨_, _, rfl, run_takeDeferred (hd D (by simp)), ?_⟩⟩
    exact leaves_marks Ds _ h2 (fun E hE => (World.putObj_heap_other (fun e => h1 (by rw [← e]; exact hE))).trans (hd E (by simp [hE]))) h
theorem below_fin {B : Nat} {a : World} : ∀ (Ds : List Nat) (W : World), Below B a W → (∀ D ∈ Ds, B ≤ D) → Below B a (finW W Ds)
  | [], _, h, _ => h
  | D :: Ds, W, h, hd => below_fin Ds _ (below_put h (hd D (by simp)) _) (fun E hE => hd E (by simp [hE]))
/-- the first shift with the fewest of f's numbers, of the shifts below h -/
def fewTo (f : Nat → Nat) : Nat → Nat × Nat
  | 0 => (0, 0)
  | h + 1 => if h = 0 ∨ f h < (fewTo f h).2 then (h, f h) else fewTo f h
def fewR (p : Int) (ws : List Wk) : Nat × Nat := if schk p ws = 0 then fewTo (fun h => (loopsS ws (2 * p).toNat h).length) p.toNat else (0, 0)
theorem loops_le {nx : Nat → Nat} {T : Nat} (P : Cyc.Perm nx T) (hT : T ≤ 48) : (Cyc.loops nx T).length ≤ 48 := by
  have h1 := Cyc.loops_total P
  have h3 : ∀ (ls : List (List Nat)), (∀ l ∈ ls, 0 < l.length) → ls.length ≤ (ls.map List.length).sum := fun ls => by
    induction ls with
    | nil => intro _; simp
    | cons x ls ih =>
      intro h
      have := ih (fun l hl => h l (by simp [hl]))
      have := h x (by simp)
      simp only [List.length_cons, List.map_cons, List.sum_cons]; omega
  have := h3 _ (Cyc.loops_pos P)
  omega
/-- what holds between two rounds -/
structure FewI (w0 b0 b : Nat) (Ds : List Nat) (w : World) (pre : List Lp) (W : World) : Prop where
  cell : Has W b 3 [.int .i64 ((pre.length : Nat) : Int)]
  below : Below b0 w W
  dead : ∀ D ∈ Ds, W.heap[D]? = some (.deferred (some []))
theorem fewI_own {B w0 b0 b : Nat} {Ds : List Nat} {w : World} (hb : b0 ≤ B) (hw : b0 ≤ w.heap.size) (hD : ∀ D ∈ Ds, D < B) : OwnFrom B (fun (pre : List Lp) W => FewI w0 b0 b Ds w pre W) := fun pre W W' row hs hg hr => by
  obtain ⟨h1, h4, h5⟩ := hs
  refine ⟨h1.same (hg.block _ h1.lt (h1.not_dead (fun r e => (hr r e).2))), ?_, fun D hd => ?_⟩
  · refine ⟨hg.os.trans h4.os, hg.tape.trans h4.tape, hg.output.trans h4.output, Nat.le_trans h4.size hg.size, fun i hi => (hg.block i (Nat.lt_of_lt_of_le (Nat.lt_of_lt_of_le hi hw) h4.size) (fun e => ?_)).trans (h4.block i hi)⟩
    have := (hr i e.symm).1; omega
  · refine (hg.block D (Array.getElem?_eq_some_iff.1 (h5 D hd)).1 (fun e => ?_)).trans (h5 D hd)
    have := (hr D e.symm).1; have := hD D hd; omega
theorem FewI.keep {w0 b0 b hi : Nat} {Ds : List Nat} {w V V' : World} {pre : List Lp} (h : FewI w0 b0 b Ds w pre V) (k : IterS w0 hi V V') (h1 : b < w0) (h3 : b0 ≤ w0) (hw : b0 ≤ w.heap.size) (hD : ∀ D ∈ Ds, D < w0) : FewI w0 b0 b Ds w pre V' :=
  ⟨h.cell.same (k.same _ h.cell.lt (.inl h1)), ⟨k.os.trans h.below.os, k.tape.trans h.below.tape, k.output.trans h.below.output, Nat.le_trans h.below.size k.size, fun r hr => (k.same r (Nat.lt_of_lt_of_le (Nat.lt_of_lt_of_le hr hw) h.below.size) (.inl (by omega))).trans (h.below.block r hr)⟩, fun D hd => (k.same D (Array.getElem?_eq_some_iff.1 (h.dead D hd)).1 (.inl (hD D hd))).trans (h.dead D hd)⟩
set_option maxRecDepth 100000 in
set_option maxHeartbeats 4000000 in
theorem fewest21 (p : Int) (A : Option Addr) (n c : Nat) (ws : List Wk) (w : World) (hn : n ≤ 9223372036854775807) (hw : RdW w w.heap.size A ws) (hl : ws.length = n)
    (hs : ∀ x ∈ ws, x.word.size ≤ 9223372036854775807) :
    Calls Try.prog 21 #[.agg #[.int .i64 p, .slice A n c]] w fun e w' => e = .returned (.tuple #[.int .i64 ((fewR p ws).1 : Int), .int .i64 ((fewR p ws).2 : Int), .int .i64 (schk p ws)]) ∧ Below w.heap.size w w' := by
  have CA := Lib.hid (fun (W : World) (hb : Below w.heap.size w W) => shCheck p A n c ws W hn (hw.up hb) hl hs)
  have K0 : Has (w.alloc (.cells #[.int .i64 p, .slice A n c] 24)) w.heap.size 24 [.int .i64 p, .slice A n c] := Has.new rfl
  by_cases hE : schk p ws = 0
  case neg =>
    have e : fewR p ws = (0, 0) := by unfold fewR; rw [if_neg hE]
    rw [e]
    have hd : (schk p ws != 0) = true := by simpa using hE
    generalize schk p ws = q at *
    clear hE e hw hl hs
    refine (callsIn_wide (n := 0)).1 (callsIn_of_wp_marks Try.func21 rfl trivial ?_)
    simp only [Try.ntmps21, List.size_toArray, List.length_cons, List.length_nil, Nat.reduceAdd, Nat.reduceSub, Array.replicate_succ, Array.replicate_zero, List.push_toArray, List.append_toArray, List.nil_append, List.cons_append]
    refine wpIn_wide.2 ?_
    go_wp2_with fail
    refine (CA.out _ (by go_grown)).mono ?_
    rintro e w1 ⟨rfl, hb1⟩
    have B1 : Below w.heap.size w w1 := bvia (show Below w.heap.size w _ by go_grown) hb1
    go_wp2
    refine ⟨_, results_tmp3 rfl _ _ _, ?_⟩
    exact ⟨rfl, B1⟩
  obtain ⟨P, rfl⟩ := Int.eq_ofNat_of_zero_le (show 0 ≤ p by have := (schk_zero hE).ge; omega)
  have hR : fewR (P : Int) ws = fewTo (fun h => (loopsS ws (2 * (P : Int)).toNat h).length) P := by unfold fewR; rw [if_pos hE]; simp
  have CE := Lib.hid (fun (W : World) (hb : Below w.heap.size w W) => ends35 (P : Int) A n c ws W hn (hw.up hb) hl hE)
  have CS := Lib.hid (fun (A' : Option Addr) (c' H : Nat) (W : World) (hr : RdI W W.heap.size A' (endL ws (2 * (P : Int)).toNat)) (hH : H < P) => sewn34 (P : Int) A A' n c c' H ws W hr hE (by omega))
  have eT : (2 * (P : Int)).toNat = 2 * P := by omega
  rw [eT] at hR
  simp only [eT] at CE CS
  have HOK := Lib.hid (schk_zero hE)
  rw [hE] at CA ⊢
  have HET := Lib.hid eT
  clear eT
  rw [hR]
  clear hE hR hw hl hs
  refine (callsIn_wide (n := 0)).1 (callsIn_of_wp_marks Try.func21 rfl trivial ?_)
  simp only [Try.ntmps21, List.size_toArray, List.length_cons, List.length_nil, Nat.reduceAdd, Nat.reduceSub, Array.replicate_succ, Array.replicate_zero, List.push_toArray, List.append_toArray, List.nil_append, List.cons_append]
  refine wpIn_wide.2 ?_
  go_wp2_with fail
  refine (CA.out _ (by go_grown)).mono ?_
  rintro e w1 ⟨rfl, hb1⟩
  have HB := Lib.hid (bvia (show Below w.heap.size w _ by go_grown) hb1)
  have HK := Lib.hid (K0.below hb1 K0.lt)
  have n0 : w1.cell? ⟨w.heap.size, 0, none⟩ = some (.int .i64 (P : Int)) := HK.out.cell 0
  have n1 : w1.cell? ⟨w.heap.size, 1, none⟩ = some (.slice A n c) := HK.out.cell 1
  have q0 := HK.out.lt
  clear K0 hb1
  go_wp2_with fail
  refine (CE.out _ HB.out).mono ?_
  rintro e w3 ⟨A3, n3, c3, rfl, hr3, hl3, hn3, hc3, hb3⟩
  rw [endL_len] at hl3
  subst hl3
  have HK3 := Lib.hid (HK.out.below hb3 HK.out.lt)
  have HB3 := Lib.hid (bvia HB.out hb3)
  have HR3 := Lib.hid hr3
  clear n0 n1 q0 HK HB hb3 hr3 hn3
  have n0 : w3.cell? ⟨w.heap.size, 0, none⟩ = some (.int .i64 (P : Int)) := HK3.out.cell 0
  have n1 : w3.cell? ⟨w.heap.size, 1, none⟩ = some (.slice A n c) := HK3.out.cell 1
  have q0 := HK3.out.lt
  have hP : 2 ≤ P ∧ P ≤ 24 := by have := HOK.out.ge; have := HOK.out.le; omega
  go_wp2
  refine wp_loop (fun a' w' => ∃ (u2 u3 u7 u8 u18 u19 u20 u21 u22 u23 u24 u25 u26 u27 u28 u29 u30 u31 u32 u33 u34 u35 u36 u37 u38 : Value) (ds : List Deferred), (∃ (h : Nat) (Ds : List Nat), h ≤ P ∧ u18 = .int .i64 (h : Int) ∧ u2 = .int .i64 (((fewTo (fun h => (loopsS ws (2 * P) h).length) h).1 : Nat) : Int) ∧ u3 = .int .i64 (((fewTo (fun h => (loopsS ws (2 * P) h).length) h).2 : Nat) : Int) ∧ ds = marks Ds ∧ Hid Ds.Nodup ∧ Hid (∀ D ∈ Ds, w.heap.size ≤ D ∧ w'.heap[D]? = some (.deferred (some []))) ∧ Hid (Below w.heap.size w w') ∧ Hid (Has w' w.heap.size 24 [.int .i64 (P : Int), .slice A n c]) ∧ Hid (RdI w' w'.heap.size A3 (endL ws (2 * P)))) ∧ a' = { tmps := #[(.agg #[.int .i64 (P : Int), .slice A n c]), (.pointer (some ⟨w.heap.size, 0, none⟩)), u2, u3, .int .i64 0, .int .i64 0, .slice A3 (2 * P) c3, u7, u8, .agg #[.int .i64 (P : Int), .slice A n c], .int .i64 0, .int .i64 0, .bool false, undef, .agg #[.int .i64 (P : Int), .slice A n c], .slice A3 (2 * P) c3, .pointer (some ⟨w.heap.size, 0, none⟩), .int .i64 (P : Int), u18, u19, u20, u21, u22, u23, u24, u25, u26, u27, u28, u29, u30, u31, u32, u33, u34, u35, u36, u37, u38, undef, undef], defers := ds }) (fun a' _ => P - (intOf (a'.tmps.getD 18 undef)).toNat) ?_ ?_
  · (repeat apply Exists.intro)
    refine ⟨?_, rfl⟩
    exact ⟨0, [], Nat.zero_le _, rfl, rfl, rfl, rfl, List.nodup_nil, fun D hD => (by simp at hD), HB3, HK3, HR3⟩
  · clear HB3 HK3 HR3 n0 n1 q0
    rintro a' wr ⟨_, _, u7, u8, _, u19, u20, u21, u22, u23, u24, u25, u26, u27, u28, u29, u30, u31, u32, u33, u34, u35, u36, u37, u38, ds, ⟨h, Ds, hh, rfl, rfl, rfl, rfl, HND, HDS, HB, HK, HR⟩, rfl⟩
    obtain ⟨wo, rfl⟩ : ∃ wo : World, wo = wr := ⟨_, rfl⟩
    have n0 : wo.cell? ⟨w.heap.size, 0, none⟩ = some (.int .i64 (P : Int)) := HK.out.cell 0
    have n1 : wo.cell? ⟨w.heap.size, 1, none⟩ = some (.slice A n c) := HK.out.cell 1
    have q0 := HK.out.lt
    by_cases hlt : h < P
    · have jk : (h : Int) < (P : Int) := by omega
      have HN0 : Hid (Has (wo.alloc (.cells #[.int .i64 0] 3)) wo.heap.size 3 [.int .i64 0]) := Has.new rfl
      have BA : Below wo.heap.size wo (wo.alloc (.cells #[.int .i64 0] 3)) := by go_grown
      have HRA := Lib.hid (HR.out.up BA)
      have HBA := Lib.hid BA
      clear BA
      go_wp2_with fail
      refine (CS.out A3 c3 h _ HRA.out hlt).mono ?_
      rintro e w4 ⟨g4, rfl, hg4, hG4, hb4⟩
      have HG4 := Lib.hid hG4
      have hqn : wo.heap.size < w4.heap.size := (HN0.out.below hb4 HN0.out.lt).lt
      have HN4 := Lib.hid (HN0.out.below hb4 HN0.out.lt)
      have B4 := Lib.hid (bvia HBA.out hb4)
      have hg4' : wo.heap.size < g4 := by simp at hg4; omega
      clear hG4 hb4 hg4 HN0 HRA HBA
      go_wp2_with fail
      refine (loops36 _ _).mono ?_
      rintro e w5 ⟨rfl, hX5, hb5⟩
      have hS5 := Seam.of HOK.out hX5 (by rw [HET.out]; exact HG4.out.below hb5 HG4.out.lt)
      rw [HET.out] at hS5
      have HS5 := Lib.hid hS5
      have B5 := Lib.hid (bvia B4.out hb5)
      have HN5 := Lib.hid (HN4.out.below hb5 HN4.out.lt)
      have hx5 : w4.heap.size < w5.heap.size := hX5.lt
      have hg5 : g4 < w5.heap.size := hS5.seam.lt
      clear hS5 hX5 hb5 HG4 HN4 B4
      go_wp2
      refine wpIn_wide.1 (range_lawK (n := 0) (gf := 54) (lb := #[.pointer (some ⟨w4.heap.size, 0, none⟩)]) rfl Try.call54 encL (fun _ => rfl) (fun _ pre W => FewI w5.heap.size wo.heap.size wo.heap.size [] wo pre W) (fun ys => ys.map (·.2) = loopsS ws (2 * P) h) (fun hi pre x W => (pre ++ [x]).map (·.2) <+: loopsS ws (2 * P) h ∧ w5.heap.size ≤ hi) (KeepS wo.heap.size w5.heap.size) (fun _ _ _ _ _ h k => h.trans k) (fun _ _ _ _ _ _ _ => KeepS.put _ _ _ _ _ _) (fun _ => fewI_own (by omega) (Nat.le_refl _) (fun D hD => by simp at hD)) ⟨HN5.out, B5.out, fun D hD => (by simp at hD)⟩ ?iter ?rnd ?done)
      case iter =>
        intro l dd r0 W hd1 hd2 hKB hMid hY
        have hks := hKB.1
        have hlW := (Array.getElem?_eq_some_iff.1 hMid.rec_).1
        have hbox := (cell_same (a := ⟨w4.heap.size, 0, none⟩) (hKB.2 w4.heap.size hx5 (by omega))).trans HS5.out.box
        have hseam := HS5.out.seam.same (hKB.2 g4 hg5 (by omega))
        refine callsIn_wide.2 ((iterS (fun hi pre W => FewI w5.heap.size wo.heap.size wo.heap.size [] wo pre W ∧ w5.heap.size ≤ hi) l dd wo.heap.size w5.heap.size w4.heap.size g4 (2 * P) r0 _ _ W HS5.out.T48 HS5.out.perm HS5.out.get HS5.out.len ?_ hlW hks (by omega) hx5 (by omega) hg5 (by omega) hbox hseam ⟨⟨hMid.inv, Nat.le_refl _⟩, hMid.rec_, hMid.dfr⟩ ?_).mono ?_)
        · exact fun hi pre V V' h hk _ => ⟨h.1.keep hk (by omega) (by omega) (Nat.le_refl _) (fun D hD => by simp at hD), h.2⟩
        · exact fun hi pre x W1 hpre hok htop hmid => (hY hi pre x W1 ⟨hpre, hmid.inv.2⟩ htop ⟨hmid.inv.1, hmid.rec_, hmid.dfr⟩).mono fun e W' ⟨h1, h2, h3⟩ => ⟨h1, ⟨⟨h2.inv, Nat.le_trans hmid.inv.2 (Nat.le_trans htop h3.1)⟩, h2.rec_, h2.dfr⟩, h3⟩
        · rintro e W' ⟨hv, hi, xs, hx, h⟩
          exact ⟨hv, hi, xs, hx, ⟨h.inv.1, h.rec_, h.dfr⟩⟩
      case done =>
        rintro D hi xs' W hD hxs ⟨j1, j4, _⟩ hDf
        have hxl : xs'.length = (loopsS ws (2 * P) h).length := by rw [← hxs, List.length_map]
        rw [hxl] at j1
        have HBW : Hid (Below w.heap.size w W) := bvia HB.out j4
        have HKW : Hid (Has W w.heap.size 24 [.int .i64 (P : Int), .slice A n c]) := HK.out.below j4 HK.out.lt
        have HRW : Hid (RdI W W.heap.size A3 (endL ws (2 * P))) := HR.out.up j4
        have HDS' : Hid (∀ E ∈ D :: Ds, w.heap.size ≤ E ∧ W.heap[E]? = some (.deferred (some []))) := fun E hE => by
          rcases List.mem_cons.1 hE with rfl | hE
          · exact ⟨by omega, hDf⟩
          · have h1 := HDS.out E hE
            exact ⟨h1.1, (j4.block E (Array.getElem?_eq_some_iff.1 h1.2).1).trans h1.2⟩
        have HND' : Hid (D :: Ds).Nodup := List.nodup_cons.2 ⟨fun hm => by
          have h1 := (Array.getElem?_eq_some_iff.1 (HDS.out D hm).2).1
          omega, HND.out⟩
        have e0 : W.cell? ⟨wo.heap.size, 0, none⟩ = some (.int .i64 (((loopsS ws (2 * P) h).length : Nat) : Int)) := j1.cell 0
        have q5 := j1.lt
        obtain ⟨f, hf⟩ : ∃ f, f = fun h => (loopsS ws (2 * P) h).length := ⟨_, rfl⟩
        have hfh : (loopsS ws (2 * P) h).length = f h := by rw [hf]
        rw [← hf]
        rw [hfh] at e0
        have HFS : Hid (fewTo f (h + 1) = if h = 0 ∨ f h < (fewTo f h).2 then (h, f h) else fewTo f h) := rfl
        have HFF := Lib.hid hf
        clear hxl hxs j1 hfh n0 n1 HB HK HR HS5 B5 HN5 hf
        by_cases h0 : h = 0
        · subst h0
          have e1 : fewTo f (0 + 1) = (0, f 0) := by rw [HFS.out, if_pos (.inl rfl)]
          have HE1 := Lib.hid e1
          clear e1
          go_wp2
          go_region_held3 (fun W' => W'.cell? ⟨wo.heap.size, 0, none⟩ = some (.int .i64 ((f 0 : Nat) : Int))) (first | exact e0 | go_keep) (fail)
          go_wp2
          refine ⟨?_, ?measure⟩
          repeat apply Exists.intro
          refine ⟨?rel, rfl⟩
          case rel => exact ⟨0 + 1, D :: Ds, by omega, by go_num, by rw [← HFF.out, HE1.out]; rfl, by rw [← HFF.out, HE1.out], rfl, HND', HDS', HBW.out.drew, HKW.out.drew, HRW⟩
          case measure => simp [intOf]; omega
        · have d0 : ((h : Int) == 0) = false := by simp; omega
          by_cases h1 : f h < (fewTo f h).2
          · have e1 : fewTo f (h + 1) = (h, f h) := by rw [HFS.out, if_pos (.inr h1)]
            have HE1 := Lib.hid e1
            have d1 : decide (((f h : Nat) : Int) < (((fewTo f h).2 : Nat) : Int)) = true := decide_eq_true (by omega)
            clear e1
            go_wp2
            go_region_held3 (fun W' => W'.cell? ⟨wo.heap.size, 0, none⟩ = some (.int .i64 ((f h : Nat) : Int))) (first | exact e0 | go_keep) (fail)
            go_wp2
            refine ⟨?_, ?measure⟩
            repeat apply Exists.intro
            refine ⟨?rel, rfl⟩
            case rel => exact ⟨h + 1, D :: Ds, by omega, by go_num, by rw [← HFF.out, HE1.out], by rw [← HFF.out, HE1.out], rfl, HND', HDS', HBW.out.drew, HKW.out.drew, HRW⟩
            case measure => simp [intOf]; omega
          · have e1 : fewTo f (h + 1) = fewTo f h := by rw [HFS.out, if_neg (by rintro (h2 | h2); exact h0 h2; exact h1 h2)]
            have HE1 := Lib.hid e1
            have d1 : decide (((f h : Nat) : Int) < (((fewTo f h).2 : Nat) : Int)) = false := decide_eq_false (by omega)
            clear e1
            go_wp2
            refine ⟨?_, ?measure⟩
            repeat apply Exists.intro
            refine ⟨?rel, rfl⟩
            case rel => exact ⟨h + 1, D :: Ds, by omega, by go_num, by rw [← HFF.out, HE1.out], by rw [← HFF.out, HE1.out], rfl, HND', HDS', HBW, HKW, HRW⟩
            case measure => simp [intOf]; omega
      case rnd =>
        rintro hi l pre x W o ⟨hpre, hwh⟩ hl htop ⟨j1, j4, _⟩ hWl ho
        have hpl : pre.length ≤ 48 := by
          have h1 := hpre.length_le
          have h2 := loops_le HS5.out.perm HS5.out.T48
          rw [List.length_map, List.length_append, List.length_singleton] at h1
          have h3 : (loopsS ws (2 * P) h).length ≤ 48 := h2
          omega
        have hll := (Array.getElem?_eq_some_iff.1 hWl).1
        have hsz1 := j4.size
        have q5 := j1.lt
        clear hpre n0 n1
        dsimp only [encL]
        gi_wp2
        refine ⟨KeepsOthers.refl _, ⟨Nat.le_refl _, fun _ _ _ _ => rfl⟩, fun o' ho' => ?_⟩
        have Y4 := j1.same (w' := W.putObj l o') (World.putObj_heap_other (by omega))
        have Y5 := below_put j4 (D := l) (by omega) o'
        have hYl : (W.putObj l o').heap[l]? = some o' := World.putObj_heap_same hll
        clear j1 j4 hWl
        generalize W.putObj l o' = Y at *
        have e0 : Y.cell? ⟨wo.heap.size, 0, none⟩ = some (.int .i64 ((pre.length : Nat) : Int)) := Y4.cell 0
        have f0 := Y4.free 0
        have q6 := Y4.lt
        have HY4 := Lib.hid Y4
        have HY5 := Lib.hid Y5
        clear Y4 Y5
        gi_wp2
        refine ⟨KeepsOthers.setCell _ _ _, ⟨by simp [World.setCell], fun r hr _ hx => ?_⟩, ?_, ?_, fun D hD => (by simp at hD)⟩
        · refine Below.heap_setCell Y ⟨wo.heap.size, 0, none⟩ _ r (show r ≠ wo.heap.size from ?_)
          rcases hx with hx | hx | ⟨cs, hx⟩
          · exact hx.2
          · omega
          · exact fun e => by rw [e] at hx; exact absurd (HY4.out.of_type hx) (by decide)
        · rw [List.length_append, List.length_singleton]
          have h1 := HY4.out.set 0 (.int .i64 ((pre.length : Int) + 1))
          exact h1
        · exact HY5.out.setCell (Nat.le_refl _) _
    · obtain rfl : h = P := by omega
      go_wp2
      refine leaves_marks Ds _ HND.out (fun D hD => (HDS.out D hD).2) ⟨_, results_tmp3 rfl _ _ _, ?_⟩
      exact ⟨rfl, below_fin Ds _ HB.out (fun D hD => (HDS.out D hD).1)⟩
end Go.Proofs.Ytdimfbmbomgiaaa
/-
  Contract of torchonref24.Fewest.
-/
namespace Go.Proofs.Ytdimfbmbomgiaaa
open Go.RowKit
set_option maxRecDepth 100000 in
set_option maxHeartbeats 4000000 in
theorem fewest22 (p : Int) (A : Option Addr) (n c : Nat) (ws : List Wk) (w : World) (hn : n ≤ 9223372036854775807) (hw : RdW w w.heap.size A ws) (hl : ws.length = n)
    (hs : ∀ x ∈ ws, x.word.size ≤ 9223372036854775807) :
    Calls Try.prog 22 #[.agg #[.int .i64 p, .slice A n c]] w fun e w' => e = .returned (.tuple #[.int .i64 ((fewR p ws).1 : Int), .int .i64 ((fewR p ws).2 : Int), .int .i64 (schk p ws)]) ∧ Below w.heap.size w w' := by
  have CA := Lib.hid (fun (W : World) (hb : Below w.heap.size w W) => check04 p A n c ws W hn (hw.up hb) hl hs)
  have K0 : Has (w.alloc (.cells #[.int .i64 p, .slice A n c] 24)) w.heap.size 24 [.int .i64 p, .slice A n c] := Has.new rfl
  by_cases hE : schk p ws = 0
  case neg =>
    have e : fewR p ws = (0, 0) := by unfold fewR; rw [if_neg hE]
    rw [e]
    have hd : (schk p ws != 0) = true := by simpa using hE
    generalize schk p ws = q at *
    clear hE e hw hl hs
    go_enter Try.func22, Try.ntmps22
    go_wp2_with fail
    refine (CA.out _ (by go_grown)).mono ?_
    rintro e w1 ⟨rfl, hb1⟩
    have B1 : Below w.heap.size w w1 := bvia (show Below w.heap.size w _ by go_grown) hb1
    go_wp2
    refine bodyPost_ret (results_tmp3 rfl _ _ _) rfl ?_
    exact ⟨rfl, B1⟩
  obtain ⟨P, rfl⟩ := Int.eq_ofNat_of_zero_le (show 0 ≤ p by have := (schk_zero hE).ge; omega)
  have hR : fewR (P : Int) ws = fewTo (fun h => (loopsS ws (2 * (P : Int)).toNat h).length) P := by unfold fewR; rw [if_pos hE]; simp
  have CJ := Lib.hid (fun (H : Nat) (W : World) (hb : Below w.heap.size w W) (hH : H < P) => joints38 (P : Int) A n c H ws W hn (hw.up hb) hl hE (by omega))
  have eT : (2 * (P : Int)).toNat = 2 * P := by omega
  have HOK := Lib.hid (schk_zero hE)
  have CL := Lib.hid (fun (H d : Nat) (A' : Option Addr) (W : World) (hr : RdI W W.heap.size A' (nxL ws (2 * (P : Int)).toNat H (2 * (P : Int)).toNat)) => loops37s (d := d) HOK.out A' W hr)
  rw [eT] at hR
  simp only [eT] at CJ CL
  obtain ⟨f, hf⟩ : ∃ f, f = fun h => (loopsS ws (2 * P) h).length := ⟨_, rfl⟩
  rw [← hf] at hR
  have HF : Hid (∀ h, (loopsS ws (2 * P) h).length = f h) := fun h => by rw [hf]
  rw [hE] at CA ⊢
  rw [hR]
  have hP : 2 ≤ P ∧ P ≤ 24 := by have := HOK.out.ge; have := HOK.out.le; omega
  have HF1 : Hid (fewTo f 1 = (0, f 0)) := rfl
  clear hE hR hw hl hs eT hf
  go_enter Try.func22, Try.ntmps22
  go_wp2_with fail
  refine (CA.out _ (by go_grown)).mono ?_
  rintro e w1 ⟨rfl, hb1⟩
  have HB := Lib.hid (bvia (show Below w.heap.size w _ by go_grown) hb1)
  have HK := Lib.hid (K0.below hb1 K0.lt)
  have n0 : w1.cell? ⟨w.heap.size, 0, none⟩ = some (.int .i64 (P : Int)) := HK.out.cell 0
  have n1 : w1.cell? ⟨w.heap.size, 1, none⟩ = some (.slice A n c) := HK.out.cell 1
  have q0 := HK.out.lt
  clear K0 hb1
  go_wp2_with fail
  refine (CJ.out 0 _ HB.out (by omega)).mono ?_
  rintro e w3 ⟨A3, n3, c3, rfl, hr3, hl3, hn3, hc3, hb3⟩
  rw [nxL_len] at hl3
  subst hl3
  have HK3 := Lib.hid (HK.out.below hb3 HK.out.lt)
  have HB3 := Lib.hid (bvia HB.out hb3)
  have HR3 := Lib.hid hr3
  clear n0 n1 q0 HK HB hb3 hr3 hn3
  go_wp2_with fail
  refine (CL.out 0 c3 A3 _ HR3.out).mono ?_
  rintro e w4 ⟨A4, n4, c4, rfl, _, hl4, hn4, hc4, hb4⟩
  rw [HF.out] at hl4
  subst hl4
  have HK4 := Lib.hid (HK3.out.below hb4 HK3.out.lt)
  have HB4 := Lib.hid (bvia HB3.out hb4)
  clear hb4 HK3 HB3 HR3
  go_wp2
  go_loopw [6, 7, 8] (fun u v x wr => ∃ h : Nat, 1 ≤ h ∧ h ≤ P ∧ x = .int .i64 (h : Int) ∧ u = .int .i64 (((fewTo f h).1 : Nat) : Int) ∧ v = .int .i64 (((fewTo f h).2 : Nat) : Int) ∧ Hid (Below w.heap.size w wr) ∧ Hid (Has wr w.heap.size 24 [.int .i64 (P : Int), .slice A n c])) (fun _ _ x _ => P - (intOf x).toNat)
  case atStart => exact ⟨1, Nat.le_refl _, by omega, rfl, by rw [HF1.out]; rfl, by rw [HF1.out], HB4, HK4⟩
  case round =>
    clear HB4 HK4
    obtain ⟨h, h1, hh, rfl, rfl, rfl, HB, HK⟩ := hrel
    obtain ⟨wo, rfl⟩ : ∃ wo : World, wo = wr := ⟨_, rfl⟩
    have n0 : wo.cell? ⟨w.heap.size, 0, none⟩ = some (.int .i64 (P : Int)) := HK.out.cell 0
    have n1 : wo.cell? ⟨w.heap.size, 1, none⟩ = some (.slice A n c) := HK.out.cell 1
    have q0 := HK.out.lt
    by_cases hlt : h < P
    · have jk : (h : Int) < (P : Int) := by omega
      have HFS : Hid (fewTo f (h + 1) = if h = 0 ∨ f h < (fewTo f h).2 then (h, f h) else fewTo f h) := rfl
      go_wp2_with fail
      refine (CJ.out h _ HB.out hlt).mono ?_
      rintro e w5 ⟨A5, n5, c5, rfl, hr5, hl5, hn5, hc5, hb5⟩
      rw [nxL_len] at hl5
      subst hl5
      have HK5 := Lib.hid (HK.out.below hb5 HK.out.lt)
      have HB5 := Lib.hid (bvia HB.out hb5)
      have HR5 := Lib.hid hr5
      clear n0 n1 q0 HK HB hb5 hr5 hn5
      go_wp2_with fail
      refine (CL.out h c5 A5 _ HR5.out).mono ?_
      rintro e w6 ⟨A6, n6, c6, rfl, _, hl6, hn6, hc6, hb6⟩
      rw [HF.out] at hl6
      subst hl6
      have HK6 := Lib.hid (HK5.out.below hb6 HK5.out.lt)
      have HB6 := Lib.hid (bvia HB5.out hb6)
      clear hb6 HK5 HB5 HR5
      by_cases h2 : f h < (fewTo f h).2
      · have e1 : fewTo f (h + 1) = (h, f h) := by rw [HFS.out, if_pos (.inr h2)]
        have HE1 := Lib.hid e1
        have d1 : decide (((f h : Nat) : Int) < (((fewTo f h).2 : Nat) : Int)) = true := decide_eq_true (by omega)
        clear e1
        go_wp2
        go_roundw
        case rel => exact ⟨h + 1, by omega, by omega, by go_num, by rw [HE1.out], by rw [HE1.out], HB6, HK6⟩
        case measure => first | (simp [intOf]; done) | (simp [intOf]; omega)
      · have e1 : fewTo f (h + 1) = fewTo f h := by rw [HFS.out, if_neg (by omega)]
        have HE1 := Lib.hid e1
        have d1 : decide (((f h : Nat) : Int) < (((fewTo f h).2 : Nat) : Int)) = false := decide_eq_false (by omega)
        clear e1
        go_wp2
        go_roundw
        case rel => exact ⟨h + 1, by omega, by omega, by go_num, by rw [HE1.out], by rw [HE1.out], HB6, HK6⟩
        case measure => first | (simp [intOf]; done) | (simp [intOf]; omega)
    · obtain rfl : h = P := by omega
      go_wp2
      refine bodyPost_ret (results_tmp3 rfl _ _ _) rfl ?_
      exact ⟨rfl, HB.out⟩
end Go.Proofs.Ytdimfbmbomgiaaa
/-
  Contract of torchonref24.Period.
-/
namespace Go.Proofs.Ytdimfbmbomgiaaa
open Go.RowKit
/-- where each thread is after n steps, the first i of them one step further -/
def atM (nx : Nat → Nat) (T n i : Nat) : List Int := (List.range T).map (fun t => if t < i then ((Cyc.it nx (n + 1) t : Nat) : Int) else ((Cyc.it nx n t : Nat) : Int))
theorem atM_len (nx : Nat → Nat) (T n i : Nat) : (atM nx T n i).length = T := by simp [atM]
theorem atM_get (nx : Nat → Nat) {T n i t : Nat} (h : t < T) : (atM nx T n i)[t]? = some (if t < i then ((Cyc.it nx (n + 1) t : Nat) : Int) else ((Cyc.it nx n t : Nat) : Int)) := by
  unfold atM; rw [List.getElem?_map, List.getElem?_range h]; rfl
theorem atM_set (nx : Nat → Nat) {T n i : Nat} : (atM nx T n i).set i ((Cyc.it nx (n + 1) i : Nat) : Int) = atM nx T n (i + 1) := by
  apply List.ext_getElem?
  intro t
  rw [List.getElem?_set, atM_len]
  by_cases ht : t < T
  · rw [atM_get nx ht, atM_get nx ht]
    by_cases e : i = t
    · subst e; rw [if_pos rfl, if_pos ht, if_pos (by omega)]
    · rw [if_neg e]
      congr 1
      by_cases h : t < i
      · rw [if_pos h, if_pos (by omega)]
      · rw [if_neg h, if_neg (by omega)]
  · have h1 : (atM nx T n (i + 1))[t]? = none := List.getElem?_eq_none (by rw [atM_len]; omega)
    have h2 : (atM nx T n i)[t]? = none := List.getElem?_eq_none (by rw [atM_len]; omega)
    rw [h1, h2]
    split
    · split
      · omega
      · rfl
    · rfl
theorem atM_next (nx : Nat → Nat) (T n : Nat) : atM nx T n T = atM nx T (n + 1) 0 := by
  unfold atM
  apply List.map_congr_left
  intro t ht
  rw [if_pos (List.mem_range.1 ht), if_neg (by omega)]
theorem atM_one (ws : List Wk) (T h : Nat) : atM (nxS ws T h) T 1 0 = nxL ws T h T := by
  unfold atM nxL
  apply List.map_congr_left
  intro t ht
  rw [if_neg (by omega), if_pos (List.mem_range.1 ht)]; rfl
/-- are the first i threads back after n steps? -/
def backTo (nx : Nat → Nat) (n i : Nat) : Bool := (List.range i).all (fun t => Cyc.it nx n t == t)
theorem backTo_succ (nx : Nat → Nat) (n i : Nat) : backTo nx n (i + 1) = (backTo nx n i && (Cyc.it nx n i == i)) := by
  unfold backTo; rw [List.range_succ, List.all_append]; simp
theorem backTo_all {nx : Nat → Nat} {T n : Nat} (P : Cyc.Perm nx T) : backTo nx n T = true ↔ Cyc.per nx T ∣ n := by
  rw [← Cyc.per_back P]
  unfold backTo
  rw [List.all_eq_true]
  constructor
  · intro h t ht
    simpa using h t (List.mem_range.2 ht)
  · intro h t ht
    simpa using h t (List.mem_range.1 ht)
set_option maxRecDepth 100000 in
set_option maxHeartbeats 4000000 in
theorem period20 (p : Int) (A : Option Addr) (n c : Nat) (h : Int) (ws : List Wk) (w : World) (hn : n ≤ 9223372036854775807) (hw : RdW w w.heap.size A ws) (hl : ws.length = n)
    (hs : ∀ x ∈ ws, x.word.size ≤ 9223372036854775807) :
    Calls Try.prog 20 #[.agg #[.int .i64 p, .slice A n c], .int .i64 h] w (RetNE .i64 (perR p ws h) (seE p ws h) w) := by
  have CA := Lib.hid (fun (W : World) (hb : Below w.heap.size w W) => asked32 p A n c h ws W hn (hw.up hb) hl hs)
  have K0 : Has (w.alloc (.cells #[.int .i64 p, .slice A n c] 24)) w.heap.size 24 [.int .i64 p, .slice A n c] := Has.new rfl
  by_cases hE : seE p ws h = 0
  case neg =>
    have e : perR p ws h = 0 := by unfold perR; rw [if_neg hE]
    rw [e]
    have hd : (seE p ws h != 0) = true := by simpa using hE
    generalize seE p ws h = q at *
    clear hE e hw hl hs
    go_enter Try.func20, Try.ntmps20
    go_wp2_with fail
    refine (CA.out _ (by go_grown)).mono ?_
    rintro e w1 ⟨rfl, hb1⟩
    have B1 : Below w.heap.size w w1 := bvia (show Below w.heap.size w _ by go_grown) hb1
    go_wp2
    go_ret2
    exact ⟨rfl, B1⟩
  have hR : perR p ws h = ((Cyc.per (nxS ws (2 * p).toNat h.toNat) (2 * p).toNat : Nat) : Int) := by unfold perR; rw [if_pos hE]
  obtain ⟨g1, g2, g3⟩ := seE_zero hE
  obtain ⟨H, rfl⟩ := Int.eq_ofNat_of_zero_le g2
  rw [show ((H : Nat) : Int).toNat = H by simp] at hR
  rw [hR]
  rw [hE] at CA ⊢
  have HOK := Lib.hid (schk_zero g1)
  have CJ := Lib.hid (fun (W : World) (hb : Below w.heap.size w W) => joints38 p A n c H ws W hn (hw.up hb) hl g1 g3)
  have HPM := Lib.hid (nxS_perm HOK.out H)
  have hT : (2 * p).toNat ≤ 48 ∧ 4 ≤ (2 * p).toNat := by have := HOK.out.le; have := HOK.out.ge; omega
  have HA1 := Lib.hid (atM_one ws (2 * p).toNat H)
  have HNL : Hid (∀ t, t < (2 * p).toNat → (nxL ws (2 * p).toNat H (2 * p).toNat)[t]? = some (nxS ws (2 * p).toNat H t : Int)) := fun t ht => nxL_get ws ht ht
  have HLL := Lib.hid (nxL_len ws (2 * p).toNat H (2 * p).toNat)
  generalize (2 * p).toNat = T at *
  generalize nxL ws T H T = ns at *
  generalize nxS ws T H = nx at *
  have hper := Cyc.per_bounds HPM.out hT.1
  generalize hL : Cyc.per nx T = L at *
  have HL := Lib.hid hL
  clear hE hR g1 g2 g3 hw hl hs hL
  go_enter Try.func20, Try.ntmps20
  go_wp2_with fail
  refine (CA.out _ (by go_grown)).mono ?_
  rintro e w1 ⟨rfl, hb1⟩
  have HB := Lib.hid (bvia (show Below w.heap.size w _ by go_grown) hb1)
  have HK := Lib.hid (K0.below hb1 K0.lt)
  have n0 : w1.cell? ⟨w.heap.size, 0, none⟩ = some (.int .i64 p) := HK.out.cell 0
  have n1 : w1.cell? ⟨w.heap.size, 1, none⟩ = some (.slice A n c) := HK.out.cell 1
  have q0 := HK.out.lt
  clear K0 hb1
  go_wp2_with fail
  refine (CJ.out _ HB.out).mono ?_
  rintro e w3 ⟨A3, n3, c3, rfl, hr3, hl3, hn3, hc3, hb3⟩
  rw [HLL.out] at hl3
  subst hl3
  have HB3 := Lib.hid (bvia HB.out hb3)
  have HR3 := Lib.hid hr3
  clear n0 n1 q0 HK HB hb3 hr3 hn3
  go_wp2_with (at_builtin; (refine wpList_appI rfl (.tmp 22) (.tmp 23) rfl w3.heap.size (.slice (some ⟨w3.heap.size, 0, none⟩) 0 0) 0 [] rfl (own_lit0 (Nat.le_refl _)) A3 T c3 _ (by simp [Act.eval]) (HR3.out.up (by go_grown)) HLL.out (by omega) (by simp) ?_; intro A7 c7 w7 hown7 hgrow7))
  have hB7 : Below w3.heap.size w3 w7 := ((Below.refl _ w3).alloc (Nat.le_refl _) (.cells #[] 3)).grown hgrow7 (by simp) (fun kk hk => by simp [Value.ownBlock] at hk; omega)
  obtain ⟨ga, rest, rfl, hga, HW7', _⟩ := own_has hown7 (by omega)
  have HA7 : Hid (Has w7 ga 3 ((atM nx T 1 0).map vInt ++ rest)) := by
    show Has _ _ _ _
    rw [HA1.out]; exact HW7'
  have HB7 := Lib.hid (bvia HB3.out hB7)
  have HR7 := Lib.hid (HR3.out.up hB7)
  have HAD : Hid (∀ b o, A3 = some ⟨b, o, none⟩ → b ≠ ga) := fun b o e => by
    obtain ⟨b', o', h1, h2, _⟩ := HR3.out 0 _ (HNL.out 0 (by omega))
    rw [e] at h1
    injection h1 with h1; injection h1 with h1
    omega
  have hgw : w.heap.size ≤ ga := Nat.le_trans HB3.out.size hga
  clear hown7 hgrow7 hB7 HW7' HB3 HR3 hga
  go_loopw [9] (fun v wr => ∃ n : Nat, 1 ≤ n ∧ n ≤ L ∧ v = .int .i64 (n : Int) ∧ Hid (Has wr ga 3 ((atM nx T n 0).map vInt ++ rest)) ∧ Hid (RdI wr wr.heap.size A3 ns) ∧ Hid (Below w.heap.size w wr)) (fun v _ => L - (intOf v).toNat)
  case atStart => exact ⟨1, Nat.le_refl _, by omega, rfl, HA7, HR7, HB7⟩
  case round =>
    clear HA7 HR7 HB7
    obtain ⟨n', hn1, hnL, rfl, HA, HR, HB⟩ := hrel
    obtain ⟨wo, rfl⟩ : ∃ wo : World, wo = wr := ⟨_, rfl⟩
    have HBA := Lib.hid (backTo_all (n := n') HPM.out)
    go_wp2
    go_loopw [10, 11] (fun u v wr => ∃ i : Nat, i ≤ T ∧ u = .bool (backTo nx n' i) ∧ v = .int .i64 (i : Int) ∧ wr = wo) (fun _ v _ => T - (intOf v).toNat)
    case atStart => exact ⟨0, Nat.zero_le _, rfl, rfl, rfl⟩
    case round =>
      obtain ⟨i, hi, rfl, rfl, hw⟩ := hrel
      subst hw
      by_cases hlt : i < T
      · have jk : (i : Int) < (T : Int) := by omega
        have c0 : wr.cell? ⟨ga, i, none⟩ = some (vInt ((Cyc.it nx n' i : Nat) : Int)) := by
          rw [HA.out.cell, List.getElem?_append_left (by rw [List.length_map, atM_len]; exact hlt), List.getElem?_map, atM_get nx hlt, if_neg (by omega)]; rfl
        have HS := Lib.hid (backTo_succ nx n' i)
        generalize Cyc.it nx n' i = a at *
        cases hb : backTo nx n' i with
        | false =>
          have HS2 : Hid (backTo nx n' (i + 1) = false) := by show _ = _; rw [HS.out, hb]; rfl
          clear hb
          go_wp2
          go_roundw
          case rel => exact ⟨i + 1, by omega, by rw [HS2.out], by go_num, trivial⟩
          case measure => first | (simp [intOf]; done) | (simp [intOf]; omega)
        | true =>
          by_cases ha : a = i
          · have d1 : ((a : Int) == (i : Int)) = true := by simp; omega
            have HS2 : Hid (backTo nx n' (i + 1) = true) := by show _ = _; rw [HS.out, hb, ha]; simp
            clear hb ha
            go_wp2
            go_roundw
            case rel => exact ⟨i + 1, by omega, by rw [HS2.out], by go_num, trivial⟩
            case measure => first | (simp [intOf]; done) | (simp [intOf]; omega)
          · have d1 : ((a : Int) == (i : Int)) = false := by simp; omega
            have HS2 : Hid (backTo nx n' (i + 1) = false) := by show _ = _; rw [HS.out, hb]; simp [ha]
            clear hb ha
            go_wp2
            go_roundw
            case rel => exact ⟨i + 1, by omega, by rw [HS2.out], by go_num, trivial⟩
            case measure => first | (simp [intOf]; done) | (simp [intOf]; omega)
      · obtain rfl : i = T := by omega
        cases hb : backTo nx n' i with
        | true =>
          have hd := HBA.out.1 hb
          have hnl : n' = L := by
            have h1 := HL.out
            rw [h1] at hd
            have := Nat.le_of_dvd (by omega) hd
            omega
          subst hnl
          clear hb hd
          go_wp2
          go_ret2
          exact ⟨rfl, HB.out⟩
        | false =>
          have hlt : n' < L := by
            rcases Nat.lt_or_ge n' L with h1 | h1
            · exact h1
            · have h2 : n' = L := by omega
              have h3 : backTo nx n' i = true := HBA.out.2 (by rw [h2, HL.out]; exact Nat.dvd_refl _)
              rw [h3] at hb; cases hb
          clear hb
          go_wp2
          obtain ⟨wq, rfl⟩ : ∃ wq : World, wq = wr := ⟨_, rfl⟩
          go_loopw [12] (fun v wr' => ∃ k : Nat, k ≤ i ∧ v = .int .i64 (k : Int) ∧ Hid (Has wr' ga 3 ((atM nx i n' k).map vInt ++ rest)) ∧ Hid (RdI wr' wr'.heap.size A3 ns) ∧ Hid (Below w.heap.size w wr')) (fun v _ => i - (intOf v).toNat)
          case atStart => exact ⟨0, Nat.zero_le _, rfl, HA, HR, HB⟩
          case round =>
            clear HA HR HB
            obtain ⟨k, hk, rfl, HA, HR, HB⟩ := hrel
            obtain ⟨wo, rfl⟩ : ∃ wo : World, wo = wr := ⟨_, rfl⟩
            by_cases hki : k < i
            · have jk : (k : Int) < (i : Int) := by omega
              have c0 : wo.cell? ⟨ga, k, none⟩ = some (vInt ((Cyc.it nx n' k : Nat) : Int)) := by
                rw [HA.out.cell, List.getElem?_append_left (by rw [List.length_map, atM_len]; exact hki), List.getElem?_map, atM_get nx hki, if_neg (by omega)]; rfl
              have hit := HPM.out.it_lt n' k hki
              obtain ⟨ba, o, hA, hba, c1⟩ := HR.out _ _ (HNL.out _ hit)
              have hne := HAD.out ba o hA
              subst hA
              have HN : Hid (nx (Cyc.it nx n' k) = Cyc.it nx (n' + 1) k) := (Cyc.it_succ' nx n' k).symm
              generalize Cyc.it nx n' k = a at *
              have ai : (a : Int) < (i : Int) := by omega
              have f0 := HA.out.free k
              have qa := HA.out.lt
              go_wp2
              go_roundw
              case rel =>
                have h1 := HA.out.set k (vInt (nx a : Int))
                rw [HN.out, List.set_append_left _ _ (by rw [List.length_map, atM_len]; exact hki), ← List.map_set, atM_set] at h1
                rw [HN.out]
                refine ⟨k + 1, by omega, by go_num, h1, ?_, HB.out.setCell hgw _⟩
                intro t x hx
                obtain ⟨b, o', h2, h3, h4⟩ := HR.out t x hx
                injection h2 with h2; injection h2 with h2 h5
                subst h2; subst h5
                exact ⟨ba, o, rfl, by simpa [World.setCell] using h3, (World.cell?_setCell_far _ _ _ _ (Ne.symm hne)).trans h4⟩
              case measure => first | (simp [intOf]; done) | (simp [intOf]; omega)
            · obtain rfl : k = i := by omega
              have HNX := Lib.hid (atM_next nx k n')
              have i9 : IntKind.i64.wrap ((n' : Int) + 1) = (n' : Int) + 1 := IntWalk.i64_in _ (by omega)
              go_wp2
              go_roundw
              case rel => exact ⟨n' + 1, by omega, by omega, by go_num, by rw [← HNX.out]; exact HA, HR, HB⟩
              case measure => first | (simp [intOf]; done) | (simp [intOf]; omega)
end Go.Proofs.Ytdimfbmbomgiaaa
/-
  Contract of the law's shown.
-/
namespace Go.Proofs.Ytdimfbmbomgiaaa
open Go.RowKit
def exW : List Wk := [⟨1, 0, ⟨#[67, 84]⟩⟩]
theorem ex_loops0 : loopsR 2 exW 0 = [[0, 1, 3, 2]] ∧ seE 2 exW 0 = 0 := by decide +kernel
theorem ex_loops1 : loopsR 2 exW 1 = [[0, 3], [1], [2]] ∧ seE 2 exW 1 = 0 := by decide +kernel
theorem ex_per : perR 2 exW 0 = 4 := by decide +kernel
theorem ex_kn : knR 2 exW 1 = [(0, 1), (1, 0)] ∧ kcR 2 exW 1 = 1 := by decide +kernel
theorem ex_few : fewR 2 exW = (0, 1) ∧ schk 2 exW = 0 := by decide +kernel
theorem ex_rep : repE 2 exW 201 = 2 := by decide +kernel
theorem knHeld : Try.prog.stoodInHeld 40 = false := by kernel_rfl
theorem eql_kn (a b a' b' : Int) (w : World) : (binOp .eql 40 (.agg #[.int .i64 a, .int .i64 b]) (.agg #[.int .i64 a', .int .i64 b'])).run Try.prog w = .ok (.bool (a == a' && b == b')) w := by
  have e1 := knHeld
  cases h1 : a == a' <;> cases h2 : b == b' <;>
  simp [go_sem, e1, h1, h2, Try.underlying40, Try.underlying3]
theorem neq_kn (a b a' b' : Int) (w : World) : (binOp .neq 40 (.agg #[.int .i64 a, .int .i64 b]) (.agg #[.int .i64 a', .int .i64 b'])).run Try.prog w = .ok (.bool (!(a == a' && b == b'))) w := by
  have e1 := knHeld
  cases h1 : a == a' <;> cases h2 : b == b' <;>
  simp [go_sem, e1, h1, h2, Try.underlying40, Try.underlying3]
theorem rd1_lits (w : World) (l : List Nat) : Rd1 vNat (w.alloc (.cells (l.map vNat).toArray 3)) (w.alloc (.cells (l.map vNat).toArray 3)).heap.size (some ⟨w.heap.size, 0, none⟩) l := fun k x hx => by
  have h : Has (w.alloc (.cells (l.map vNat).toArray 3)) w.heap.size 3 (l.map vNat) := Has.new rfl
  exact ⟨w.heap.size, 0, rfl, h.lt, by rw [Nat.zero_add, h.cell, List.getElem?_map, hx]; rfl⟩
theorem rdL_has {W : World} {g : Nat} {t : TypeId} {ls : List (List Nat)} {vs : List Value} (h : Has W g t vs) (hv : ∀ (k : Nat) (l : List Nat), ls[k]? = some l → ∃ A' c', vs[k]? = some (.slice A' l.length c') ∧ Rd1 vNat W W.heap.size A' l) : RdL W W.heap.size (some ⟨g, 0, none⟩) ls := fun k l hl => by
  obtain ⟨A', c', h1, h2⟩ := hv k l hl
  exact ⟨g, 0, A', c', rfl, h.lt, by rw [Nat.zero_add, h.cell]; exact h1, h2⟩
theorem rd1_has {W : World} {g : Nat} {t : TypeId} {l : List Nat} (h : Has W g t (l.map vNat)) : Rd1 vNat W W.heap.size (some ⟨g, 0, none⟩) l := fun k x hx => by
  exact ⟨g, 0, rfl, h.lt, by rw [Nat.zero_add, h.cell, List.getElem?_map, hx]; rfl⟩
theorem has_new {w1 : World} {n : Nat} {cs : List Value} {t : TypeId} (hw : w1.heap.size = n) : Has (w1.alloc (.cells cs.toArray t)) n t cs := by
  subst hw; exact Has.new rfl
attribute [local go_sem 10000] eql_kn
set_option maxRecDepth 100000 in
set_option maxHeartbeats 4000000 in
theorem shown10 (w : World) : Calls Try.prog 10 #[] w fun e w' => e = .returned (.bool true) ∧ Below w.heap.size w w' := by
  have hs : ∀ x ∈ exW, x.word.size ≤ 9223372036854775807 := by decide
  have hl : exW.length = 1 := rfl
  obtain ⟨l0, l1⟩ := ex_loops0
  obtain ⟨l2, l3⟩ := ex_loops1
  obtain ⟨k0, k1⟩ := ex_kn
  obtain ⟨f0, f1⟩ := ex_few
  have r1 := rep_bad ex_rep (by decide)
  have C1 := Lib.hid (fun (A : Option Addr) (W : World) (hw : RdW W W.heap.size A exW) => loops16 2 A 1 1 0 exW W (by omega) hw hl hs)
  have C2 := Lib.hid (fun (A : Option Addr) (W : World) (hw : RdW W W.heap.size A exW) => loops16 2 A 1 1 1 exW W (by omega) hw hl hs)
  have C3 := Lib.hid (fun (A : Option Addr) (W : World) (hw : RdW W W.heap.size A exW) => period19 2 A 1 1 0 exW W (by omega) hw hl hs)
  have C4 := Lib.hid (fun (A : Option Addr) (W : World) (hw : RdW W W.heap.size A exW) => knots14 2 A 1 1 1 exW W (by omega) hw hl hs)
  have C5 := Lib.hid (fun (A : Option Addr) (W : World) (hw : RdW W W.heap.size A exW) => fewest21 2 A 1 1 exW W (by omega) hw hl hs)
  have C6 := Lib.hid (fun (A : Option Addr) (W : World) (hw : RdW W W.heap.size A exW) => repeat11 2 A 1 1 201 exW W (by omega) hw hl hs)
  rw [l0, l1] at C1
  rw [l2, l3] at C2
  rw [ex_per, l1] at C3
  rw [k0, k1, l3] at C4
  rw [f0, f1] at C5
  rw [r1.1, r1.2, ex_rep] at C6
  clear l0 l1 l2 l3 k0 k1 f0 f1 r1 hs hl
  have HW0 : Hid (RdW (w.alloc (.cells #[.int .i64 1, .int .i64 0, .string ⟨#[67, 84]⟩] 63)) (w.alloc (.cells #[.int .i64 1, .int .i64 0, .string ⟨#[67, 84]⟩] 63)).heap.size (some ⟨w.heap.size, 0, none⟩) exW) := rdW_one w 1 0 ⟨#[67, 84]⟩ 63
  go_enter Try.func10, Try.ntmps10
  obtain ⟨v0, hv0⟩ : ∃ v0, v0 = (w.alloc (.cells #[.int .i64 1, .int .i64 0, .string ⟨#[67, 84]⟩] 63)).alloc (.cells #[.int .i64 2, .slice (some ⟨w.heap.size, 0, none⟩) 1 1] 24) := ⟨_, rfl⟩
  have HS0 : Hid (Has v0 (w.heap.size + 1) 24 [.int .i64 2, .slice (some ⟨w.heap.size, 0, none⟩) 1 1]) := by
    have h1 := Has.new (w := w.alloc (.cells #[.int .i64 1, .int .i64 0, .string ⟨#[67, 84]⟩] 63)) (arr := #[.int .i64 2, .slice (some ⟨w.heap.size, 0, none⟩) 1 1]) (t := 24) rfl
    rw [World.size_alloc] at h1
    show Has _ _ _ _
    rw [hv0]; exact h1
  have HR0 : Hid (RdW v0 v0.heap.size (some ⟨w.heap.size, 0, none⟩) exW) := by
    show RdW _ _ _ _
    rw [hv0]; exact HW0.out.up (by go_grown)
  have HB0 : Hid (Below w.heap.size w v0) := by
    show Below _ _ _
    rw [hv0]; go_grown
  clear HW0
  go_wp2_with fail
  rw [← hv0]
  clear hv0
  refine (C1.out _ v0 HR0.out).mono ?_
  rintro e v1 ⟨A1, n1, c1, rfl, ra, la, hn1, hc1, hb⟩
  have HS1 := Lib.hid (HS0.out.below hb HS0.out.lt)
  have HR1 := Lib.hid (HR0.out.up hb)
  have HB1 := Lib.hid (bvia HB0.out hb)
  have RA1 := Lib.hid ra
  simp only [List.length_cons, List.length_nil] at la
  subst la
  clear ra
  have s0 : v1.cell? ⟨w.heap.size + 1, 0, none⟩ = some (.int .i64 2) := HS1.out.cell 0
  have s1 : v1.cell? ⟨w.heap.size + 1, 1, none⟩ = some (.slice (some ⟨w.heap.size, 0, none⟩) 1 1) := HS1.out.cell 1
  have sq := HS1.out.lt
  clear HS0 HR0 HB0 hb
  go_wp2_with fail
  refine (C2.out _ v1 HR1.out).mono ?_
  rintro e v2 ⟨A2, n2, c2, rfl, rb, lb, hn2, hc2, hb⟩
  have HS2 := Lib.hid (HS1.out.below hb HS1.out.lt)
  have HR2 := Lib.hid (HR1.out.up hb)
  have HB2 := Lib.hid (bvia HB1.out hb)
  have RA2 := Lib.hid (RA1.out.up hb)
  have RB2 := Lib.hid rb
  simp only [List.length_cons, List.length_nil] at lb
  subst lb
  clear rb RA1 s0 s1 sq
  have s0 : v2.cell? ⟨w.heap.size + 1, 0, none⟩ = some (.int .i64 2) := HS2.out.cell 0
  have s1 : v2.cell? ⟨w.heap.size + 1, 1, none⟩ = some (.slice (some ⟨w.heap.size, 0, none⟩) 1 1) := HS2.out.cell 1
  have sq := HS2.out.lt
  clear HS1 HR1 HB1 hb
  go_wp2_with fail
  refine (C3.out _ v2 HR2.out).mono ?_
  rintro e v3 ⟨rfl, hb⟩
  have HS3 := Lib.hid (HS2.out.below hb HS2.out.lt)
  have HR3 := Lib.hid (HR2.out.up hb)
  have HB3 := Lib.hid (bvia HB2.out hb)
  have RA3 := Lib.hid (RA2.out.up hb)
  have RB3 := Lib.hid (RB2.out.up hb)
  clear RA2 RB2 s0 s1 sq
  have s0 : v3.cell? ⟨w.heap.size + 1, 0, none⟩ = some (.int .i64 2) := HS3.out.cell 0
  have s1 : v3.cell? ⟨w.heap.size + 1, 1, none⟩ = some (.slice (some ⟨w.heap.size, 0, none⟩) 1 1) := HS3.out.cell 1
  have sq := HS3.out.lt
  clear HS2 HR2 HB2 hb
  go_wp2_with fail
  refine (C4.out _ v3 HR3.out).mono ?_
  rintro e v4 ⟨A4, n4, c4, rfl, rk, lk, hn4, hc4, hb⟩
  have HS4 := Lib.hid (HS3.out.below hb HS3.out.lt)
  have HR4 := Lib.hid (HR3.out.up hb)
  have HB4 := Lib.hid (bvia HB3.out hb)
  have RA4 := Lib.hid (RA3.out.up hb)
  have RB4 := Lib.hid (RB3.out.up hb)
  have RK4 := Lib.hid rk
  simp only [List.length_cons, List.length_nil] at lk
  subst lk
  clear RA3 RB3 rk s0 s1 sq
  have s0 : v4.cell? ⟨w.heap.size + 1, 0, none⟩ = some (.int .i64 2) := HS4.out.cell 0
  have s1 : v4.cell? ⟨w.heap.size + 1, 1, none⟩ = some (.slice (some ⟨w.heap.size, 0, none⟩) 1 1) := HS4.out.cell 1
  have sq := HS4.out.lt
  clear HS3 HR3 HB3 hb
  go_wp2_with fail
  refine (C5.out _ v4 HR4.out).mono ?_
  rintro e v5 ⟨rfl, hb⟩
  have HS5 := Lib.hid (HS4.out.below hb HS4.out.lt)
  have HR5 := Lib.hid (HR4.out.up hb)
  have HB5 := Lib.hid (bvia HB4.out hb)
  have RA5 := Lib.hid (RA4.out.up hb)
  have RB5 := Lib.hid (RB4.out.up hb)
  have RK5 := Lib.hid (RK4.out.up hb)
  clear RA4 RB4 RK4 s0 s1 sq
  have s0 : v5.cell? ⟨w.heap.size + 1, 0, none⟩ = some (.int .i64 2) := HS5.out.cell 0
  have s1 : v5.cell? ⟨w.heap.size + 1, 1, none⟩ = some (.slice (some ⟨w.heap.size, 0, none⟩) 1 1) := HS5.out.cell 1
  have sq := HS5.out.lt
  clear HS4 HR4 HB4 hb
  go_wp2_with fail
  refine (C6.out _ v5 HR5.out).mono ?_
  rintro e v6 ⟨A6, n6, c6, rfl, _, _, _, _, hb⟩
  have HS6 := Lib.hid (HS5.out.below hb HS5.out.lt)
  have HR6 := Lib.hid (HR5.out.up hb)
  have HB6 := Lib.hid (bvia HB5.out hb)
  have RA6 := Lib.hid (RA5.out.up hb)
  have RB6 := Lib.hid (RB5.out.up hb)
  have RK6 := Lib.hid (RK5.out.up hb)
  clear RA5 RB5 RK5 s0 s1 sq
  have s0 : v6.cell? ⟨w.heap.size + 1, 0, none⟩ = some (.int .i64 2) := HS6.out.cell 0
  have s1 : v6.cell? ⟨w.heap.size + 1, 1, none⟩ = some (.slice (some ⟨w.heap.size, 0, none⟩) 1 1) := HS6.out.cell 1
  have sq := HS6.out.lt
  clear HS5 HR5 HB5 hb
  clear s0 s1 sq HS6 HR6
  obtain ⟨b4, o4, e4, hb4, k00, k01⟩ := RK6.out 0 _ rfl
  obtain ⟨b5, o5, e5, hb5, k10, k11⟩ := RK6.out 1 _ rfl
  rw [e4] at e5
  injection e5 with e5; injection e5 with e5 e6
  subst e5; subst e6
  subst e4
  go_wp2_with fail
  refine Calls.mono (R := fun e w' => e = .returned (.bool ([[0, 1, 3, 2]] == [[0, 1, 3, 2]])) ∧ Below v6.heap.size v6 w') ?_ ?_
  · have hA : Below v6.heap.size v6 (((v6.alloc (.cells #[.int .i64 0, .slice A6 n6 c6] 24)).alloc (.cells #[.int .i64 0, .int .i64 1, .int .i64 3, .int .i64 2] 3)).alloc (.cells #[.slice (some ⟨v6.heap.size + 1, 0, none⟩) 4 4] 52)) := by go_grown
    have h1 : Has ((v6.alloc (.cells #[.int .i64 0, .slice A6 n6 c6] 24)).alloc (.cells (([0, 1, 3, 2] : List Nat).map vNat).toArray 3)) (v6.heap.size + 1) 3 (([0, 1, 3, 2] : List Nat).map vNat) := has_new (by simp)
    have h2 : Has (((v6.alloc (.cells #[.int .i64 0, .slice A6 n6 c6] 24)).alloc (.cells (([0, 1, 3, 2] : List Nat).map vNat).toArray 3)).alloc (.cells ([.slice (some ⟨v6.heap.size + 1, 0, none⟩) 4 4] : List Value).toArray 52)) (v6.heap.size + 1 + 1) 52 [.slice (some ⟨v6.heap.size + 1, 0, none⟩) 4 4] := has_new (by simp)
    have h3 := h1.alloc (.cells ([.slice (some ⟨v6.heap.size + 1, 0, none⟩) 4 4] : List Value).toArray 52)
    refine (same18 A1 (some ⟨v6.heap.size + 1 + 1, 0, none⟩) 1 1 c1 1 [[0, 1, 3, 2]] [[0, 1, 3, 2]] _ (by omega) (by omega) (RA6.out.up hA) (rdL_has h2 (fun k l hk => ?_)) rfl rfl (by simp) (by simp)).mono ?_
    · match k, hk with
      | 0, hk =>
        simp at hk; subst hk
        exact ⟨_, _, rfl, rd1_has h3⟩
      | k + 1, hk => simp at hk
    · rintro e w' ⟨rfl, hb⟩
      exact ⟨rfl, bvia hA hb⟩
  rintro e v7 ⟨rfl, hb7⟩
  have HS7 : Hid (RdL v7 v7.heap.size A2 [[0, 3], [1], [2]]) := RB6.out.up hb7
  have x00 := (hb7.cell (p := ⟨b4, _, none⟩) hb4).trans k00
  have x01 := (hb7.cell (p := ⟨b4, _, none⟩) hb4).trans k01
  have x10 := (hb7.cell (p := ⟨b4, _, none⟩) hb4).trans k10
  have x11 := (hb7.cell (p := ⟨b4, _, none⟩) hb4).trans k11
  have HX := Lib.hid (And.intro x00 (And.intro x01 (And.intro x10 x11)))
  have HB7 := Lib.hid (bvia HB6.out hb7)
  have hb47 := Nat.lt_of_lt_of_le hb4 hb7.size
  clear k00 k01 k10 k11 x00 x01 x10 x11 RA6 RB6 RK6 HB6 hb7 hb4 hb5
  go_wp2_with fail
  refine Calls.mono (R := fun e w' => e = .returned (.bool ([[0, 3], [1], [2]] == [[0, 3], [1], [2]])) ∧ Below v7.heap.size v7 w') ?_ ?_
  · have h1 : Has (v7.alloc (.cells (([0, 3] : List Nat).map vNat).toArray 3)) v7.heap.size 3 (([0, 3] : List Nat).map vNat) := has_new rfl
    have h2 : Has ((v7.alloc (.cells (([0, 3] : List Nat).map vNat).toArray 3)).alloc (.cells (([1] : List Nat).map vNat).toArray 3)) (v7.heap.size + 1) 3 (([1] : List Nat).map vNat) := has_new (by simp)
    have h3 : Has (((v7.alloc (.cells (([0, 3] : List Nat).map vNat).toArray 3)).alloc (.cells (([1] : List Nat).map vNat).toArray 3)).alloc (.cells (([2] : List Nat).map vNat).toArray 3)) (v7.heap.size + 1 + 1) 3 (([2] : List Nat).map vNat) := has_new (by simp)
    have h4 : Has ((((v7.alloc (.cells (([0, 3] : List Nat).map vNat).toArray 3)).alloc (.cells (([1] : List Nat).map vNat).toArray 3)).alloc (.cells (([2] : List Nat).map vNat).toArray 3)).alloc (.cells ([.slice (some ⟨v7.heap.size, 0, none⟩) 2 2, .slice (some ⟨v7.heap.size + 1, 0, none⟩) 1 1, .slice (some ⟨v7.heap.size + 1 + 1, 0, none⟩) 1 1] : List Value).toArray 52)) (v7.heap.size + 1 + 1 + 1) 52 ([.slice (some ⟨v7.heap.size, 0, none⟩) 2 2, .slice (some ⟨v7.heap.size + 1, 0, none⟩) 1 1, .slice (some ⟨v7.heap.size + 1 + 1, 0, none⟩) 1 1] : List Value) := has_new (by simp)
    have k1 := ((h1.alloc (.cells (([1] : List Nat).map vNat).toArray 3)).alloc (.cells (([2] : List Nat).map vNat).toArray 3)).alloc (.cells ([.slice (some ⟨v7.heap.size, 0, none⟩) 2 2, .slice (some ⟨v7.heap.size + 1, 0, none⟩) 1 1, .slice (some ⟨v7.heap.size + 1 + 1, 0, none⟩) 1 1] : List Value).toArray 52)
    have k2 := (h2.alloc (.cells (([2] : List Nat).map vNat).toArray 3)).alloc (.cells ([.slice (some ⟨v7.heap.size, 0, none⟩) 2 2, .slice (some ⟨v7.heap.size + 1, 0, none⟩) 1 1, .slice (some ⟨v7.heap.size + 1 + 1, 0, none⟩) 1 1] : List Value).toArray 52)
    have k3 := h3.alloc (.cells ([.slice (some ⟨v7.heap.size, 0, none⟩) 2 2, .slice (some ⟨v7.heap.size + 1, 0, none⟩) 1 1, .slice (some ⟨v7.heap.size + 1 + 1, 0, none⟩) 1 1] : List Value).toArray 52)
    have hA : Below v7.heap.size v7 ((((v7.alloc (.cells (([0, 3] : List Nat).map vNat).toArray 3)).alloc (.cells (([1] : List Nat).map vNat).toArray 3)).alloc (.cells (([2] : List Nat).map vNat).toArray 3)).alloc (.cells ([.slice (some ⟨v7.heap.size, 0, none⟩) 2 2, .slice (some ⟨v7.heap.size + 1, 0, none⟩) 1 1, .slice (some ⟨v7.heap.size + 1 + 1, 0, none⟩) 1 1] : List Value).toArray 52)) := by go_grown
    refine (same18 A2 (some ⟨v7.heap.size + 1 + 1 + 1, 0, none⟩) 3 3 c2 3 [[0, 3], [1], [2]] [[0, 3], [1], [2]] _ (by omega) (by omega) (HS7.out.up hA) (rdL_has h4 (fun k l hk => ?_)) rfl rfl (by simp) (by simp)).mono ?_
    · match k, hk with
      | 0, hk =>
        simp at hk; subst hk
        exact ⟨_, _, rfl, rd1_has k1⟩
      | 1, hk =>
        simp at hk; subst hk
        exact ⟨_, _, rfl, rd1_has k2⟩
      | 2, hk =>
        simp at hk; subst hk
        exact ⟨_, _, rfl, rd1_has k3⟩
      | k + 3, hk => simp at hk
    · rintro e w' ⟨rfl, hb⟩
      exact ⟨rfl, bvia hA hb⟩
  rintro e v8 ⟨rfl, hb8⟩
  obtain ⟨x00, x01, x10, x11⟩ := HX.out
  have y00 := (hb8.cell (p := ⟨b4, _, none⟩) hb47).trans x00
  have y01 := (hb8.cell (p := ⟨b4, _, none⟩) hb47).trans x01
  have y10 := (hb8.cell (p := ⟨b4, _, none⟩) hb47).trans x10
  have y11 := (hb8.cell (p := ⟨b4, _, none⟩) hb47).trans x11
  have HB8 := Lib.hid (bvia HB7.out hb8)
  clear x00 x01 x10 x11 HX HS7 HB7 hb8
  simp only [Nat.zero_mul, Nat.one_mul, Nat.add_zero] at y00 y01 y10 y11
  go_wp2
  go_ret
  exact ⟨rfl, HB8.out⟩
end Go.Proofs.Ytdimfbmbomgiaaa
/-
  Two works compared by == and !=, as the model runs it.
-/
namespace Go.Proofs.Ytdimfbmbomgiaaa
open Go.RowKit
theorem wkHeld : Try.prog.stoodInHeld 63 = false := by kernel_rfl
theorem wkGuard : Try.prog.eqGuardType Try.prog.depth 63 = false := by kernel_rfl
theorem wk_beq (x y : Wk) : (x == y) = (x.kind == y.kind && (x.at_ == y.at_ && x.word.toList == y.word.toList)) := by
  rw [Bool.eq_iff_iff]
  simp only [beq_iff_eq, Bool.and_eq_true, ByteArray.toList_eq]
  constructor
  · rintro rfl; exact ⟨rfl, rfl, rfl⟩
  · rintro ⟨h1, h2, h3⟩
    cases x with | mk a b c => cases y with | mk a' b' c' =>
      simp only at h1 h2 h3
      subst h1; subst h2
      have : c = c' := by
        cases c with | mk c => cases c' with | mk c' =>
          simp only [ByteArray.mk.injEq]
          exact Array.toList_inj.1 h3
      rw [this]
theorem neq_wk (x y : Wk) (w : World) : (binOp .neq 63 (.agg #[.int .i64 x.kind, .int .i64 x.at_, .string x.word]) (.agg #[.int .i64 y.kind, .int .i64 y.at_, .string y.word])).run Try.prog w = .ok (.bool (!(x == y))) w := by
  have e1 := wkHeld
  rw [wk_beq]
  cases h1 : x.kind == y.kind <;> cases h2 : x.at_ == y.at_ <;> cases h3 : x.word.toList == y.word.toList <;>
  simp [go_sem, e1, h1, h2, h3, Try.underlying63, Try.underlying3, Try.underlying9]
theorem eql_wk (x y : Wk) (w : World) : (binOp .eql 63 (.agg #[.int .i64 x.kind, .int .i64 x.at_, .string x.word]) (.agg #[.int .i64 y.kind, .int .i64 y.at_, .string y.word])).run Try.prog w = .ok (.bool (x == y)) w := by
  have e1 := wkHeld
  rw [wk_beq]
  cases h1 : x.kind == y.kind <;> cases h2 : x.at_ == y.at_ <;> cases h3 : x.word.toList == y.word.toList <;>
  simp [go_sem, e1, h1, h2, h3, Try.underlying63, Try.underlying3, Try.underlying9]
end Go.Proofs.Ytdimfbmbomgiaaa
/-
  Contract of torchonref04.Same: two sheets are equal.
-/
namespace Go.Proofs.Ytdimfbmbomgiaaa
open Go.RowKit
attribute [local go_sem 10000] neq_wk
set_option maxRecDepth 100000 in
set_option maxHeartbeats 400000 in
theorem same04 (p q : Int) (A B : Option Addr) (n m c d : Nat) (xs ys : List Wk) (w : World) (hn : n ≤ 9223372036854775807) (hm : m ≤ 9223372036854775807) (hx : RdW w w.heap.size A xs) (hy : RdW w w.heap.size B ys) (hl : xs.length = n) (hl' : ys.length = m) :
    Calls Try.prog 13 #[.agg #[.int .i64 p, .slice A n c], .agg #[.int .i64 q, .slice B m d]] w fun e w' => e = .returned (.bool (p == q && xs == ys)) ∧ Below w.heap.size w w' := by
  have HX := Lib.hid hx; clear hx
  have HY := Lib.hid hy; clear hy
  have HL := Lib.hid hl; clear hl
  have HM := Lib.hid hl'; clear hl'
  by_cases hpq : p = q
  · subst hpq
    by_cases hnm : n = m
    · subst hnm
      go_enter Try.func13, Try.ntmps13
      go_wp2
      go_loopw [5] (fun i wr => ∃ k : Nat, k ≤ n ∧ i = .int .i64 k ∧ Below w.heap.size w wr ∧ wr.cell? ⟨w.heap.size, 1, none⟩ = some (.slice A n c) ∧ wr.cell? ⟨w.heap.size + 1, 1, none⟩ = some (.slice B n d) ∧ (∀ (j : Nat) (x : Wk), j < k → xs[j]? = some x → ys[j]? = some x)) (fun i _ => n - (intOf i).toNat)
      case atStart => exact ⟨0, Nat.zero_le _, rfl, by go_grown, by go_simp, by go_simp, fun j _ hj => absurd hj (by omega)⟩
      case round =>
        obtain ⟨k, hk, rfl, hbw, d1, d2, hno⟩ := hrel
        have H := Lib.hid hno; clear hno
        by_cases hlt : k < n
        · obtain ⟨x, hx⟩ := get_of_lt (l := xs) (k := k) (by rw [HL.out]; exact hlt)
          obtain ⟨y, hy⟩ := get_of_lt (l := ys) (k := k) (by rw [HM.out]; exact hlt)
          obtain ⟨b, o, rfl, hb, c1, c2, c3⟩ := (HX.out.below hbw (Nat.le_refl _)) k x hx
          obtain ⟨b', o', rfl, hb', c1', c2', c3'⟩ := (HY.out.below hbw (Nat.le_refl _)) k y hy
          have HX' := Lib.hid hx; clear hx
          have HY' := Lib.hid hy; clear hy
          have e2 := wkGuard
          go_wp2
          go_quiet (fail)
          go_wp2
          · go_ret
            exact ⟨ret_bool (by rw [beq_self_eq_true, Bool.true_and]; exact beq_false (ne_of_get HX'.out HY'.out (by simpa using ‹(!x == y) = true›))), below_drewN hbw _⟩
          · go_roundw
            case rel => exact ⟨k + 1, by omega, by go_num, below_drewN hbw _, by go_simp, by go_simp, pw_step H.out HX'.out HY'.out (by simpa using ‹(!x == y) = false›)⟩
            case measure => simp [intOf]; omega
        · go_wp2
          go_ret
          exact ⟨ret_bool (by rw [beq_self_eq_true, Bool.true_and]; exact beq_true (eq_of_get (by rw [HL.out, HM.out]) (fun j x hx => H.out j x (by have := lt_of_get hx; rw [HL.out] at this; omega) hx))), hbw⟩
    · go_enter Try.func13, Try.ntmps13
      go_wp2
      go_ret
      exact ⟨ret_bool (by rw [beq_self_eq_true, Bool.true_and]; exact beq_false (ne_of_len HL.out HM.out hnm)), by go_grown⟩
  · go_enter Try.func13, Try.ntmps13
    go_wp2
    go_ret
    exact ⟨ret_bool (by rw [show (p == q) = false by simpa using hpq]; rfl), by go_grown⟩
end Go.Proofs.Ytdimfbmbomgiaaa
