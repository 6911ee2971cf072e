/-
  The iterator of (*seams.seam).loops: it yields the loops.
-/
import Derived.Test.YtdimfbmbomgiaaaVG2
import Derived.Test.YtdimfbmbomgiaaaVG4
import Derived.Test.YtdimfbmbomgiaaaVG5
import Derived.Test.YtdimfbmbomgiaaaVG7
import Derived.Test.YtdimfbmbomgiaaaVG9
import Derived.Test.YtdimfbmbomgiaaaVG10
import Derived.Deep.Cut
namespace Go.Proofs.Ytdimfbmbomgiaaa
open Go.RowKit
theorem run_neqnil {P : Program} (w : World) (t e : TypeId) (a : Option Addr) (l c : Nat) (h : P.underlying t = some (.slice e)) : (binOp .neq t (.slice a l c) (.slice none 0 0)).run P w = .ok (.bool (!a.isNone)) w := by
  unfold binOp
  simp [run_equal_slice_nil w t e a l c h]
/-- a loop that is yielded: where it lies, and its threads -/
abbrev Lp := (Option Addr × Nat) × List Nat
def encL (x : Lp) : Array Value := #[.slice x.1.1 x.2.length x.1.2]
def OkL (hi : Nat) (x : Lp) (W : World) : Prop := W.ownsRow hi 3 1 (.slice x.1.1 x.2.length x.1.2) x.2.length (x.2.map vNat)
/-- what a round may change of the blocks that lay there before it -/
def KeepS (b w0 : Nat) (l hi : Nat) (A B : World) : Prop := A.heap.size ≤ B.heap.size ∧ ∀ r, r < A.heap.size → r ≠ l → (r < w0 ∧ r ≠ b ∨ hi ≤ r ∨ ∃ cs, Has A r 98 cs) → B.heap[r]? = A.heap[r]?
theorem KeepS.trans {b w0 l hi : Nat} {A B C : World} (h : KeepS b w0 l hi A B) (k : KeepS b w0 l hi B C) : KeepS b w0 l hi A C :=
  ⟨Nat.le_trans h.1 k.1, fun r hr hl hx => (k.2 r (Nat.lt_of_lt_of_le hr h.1) hl (by
    rcases hx with hx | hx | ⟨cs, hx⟩
    · exact .inl hx
    · exact .inr (.inl hx)
    · exact .inr (.inr ⟨cs, hx.same (h.2 r hr hl (.inr (.inr ⟨cs, hx⟩)))⟩))).trans (h.2 r hr hl hx)⟩
theorem KeepS.put (b w0 l hi : Nat) (A : World) (o : Obj) : KeepS b w0 l hi A (A.putObj l o) :=
  ⟨Nat.le_of_eq (by simp [World.putObj]), fun r _ hl _ => World.putObj_heap_other hl⟩
/-- what the iterator changes between two calls of yield -/
structure IterS (w0 hi : Nat) (A B : World) : Prop where
  os : B.os = A.os
  tape : B.tape = A.tape
  output : B.output = A.output
  size : A.heap.size ≤ B.heap.size
  same : ∀ r, r < A.heap.size → (r < w0 ∨ r < hi ∧ ¬ ∃ cs, Has A r 98 cs) → B.heap[r]? = A.heap[r]?
/-- 48 marks -/
def bz (s : Nat → Bool) : List Value := (List.range 48).map (fun k => .bool (s k))
theorem bz_len (s : Nat → Bool) : (bz s).length = 48 := by simp [bz]
theorem bz_get (s : Nat → Bool) {k : Nat} (h : k < 48) : (bz s)[k]? = some (.bool (s k)) := by
  unfold bz; rw [List.getElem?_map, List.getElem?_range h]; rfl
theorem bz_set (s : Nat → Bool) (k : Nat) : (bz s).set k (.bool true) = bz (Cyc.upd s k) := by
  apply List.ext_getElem?
  intro i
  rw [List.getElem?_set, bz_len]
  by_cases hi : i < 48
  · rw [bz_get _ hi, bz_get _ hi]
    by_cases e : k = i
    · subst e; rw [if_pos rfl, if_pos hi, Cyc.upd_same]
    · rw [if_neg e, Cyc.upd_ne s (fun h => e h.symm)]
  · have h1 : (bz s)[i]? = none := List.getElem?_eq_none (by rw [bz_len]; omega)
    have h2 : (bz (Cyc.upd s k))[i]? = none := List.getElem?_eq_none (by rw [bz_len]; omega)
    rw [h1, h2]
    split
    · split
      · omega
      · rfl
    · rfl
theorem own_cells2 {W : World} {base : Nat} {e : TypeId} {size n : Nat} {v : Value} {xs : List Value} (h : W.ownsRow base e size v n xs) {g : Nat} (hg : v.ownBlock = some g) : ∃ cs, Has W g e cs := by
  rcases h.2 with ⟨he, _⟩ | ⟨g', cap, cur, he, _, hh, _⟩
  · rw [he] at hg; cases hg
  · rw [he] at hg
    have : g' = g := by simpa [Value.ownBlock] using hg
    subst this
    exact ⟨cur.toList, by unfold Has; rw [hh]⟩
theorem trail_true {nx : Nat → Nat} {s : Nat → Bool} {k : Nat} (h : s k = true) (f : Nat) : Cyc.trail nx f s k = (s, []) := by
  cases f with
  | zero => rfl
  | succ f => simp [Cyc.trail, h]
theorem trail_false {nx : Nat → Nat} {s : Nat → Bool} {k : Nat} (h : s k = false) (f : Nat) : Cyc.trail nx (f + 1) s k = ((Cyc.trail nx f (Cyc.upd s k) (nx k)).1, k :: (Cyc.trail nx f (Cyc.upd s k) (nx k)).2) := by
  simp [Cyc.trail, h]
theorem loops_nil {nx : Nat → Nat} {T j : Nat} {s : Nat → Bool} (h : Cyc.trail nx T (Cyc.loopsTo nx T j).1 j = (s, [])) : Cyc.loopsTo nx T (j + 1) = (s, (Cyc.loopsTo nx T j).2) := by
  show (_, _) = _
  rw [h]; simp
theorem loops_cons {nx : Nat → Nat} {T j k : Nat} {l : List Nat} {s : Nat → Bool} (h : Cyc.trail nx T (Cyc.loopsTo nx T j).1 j = (s, k :: l)) : Cyc.loopsTo nx T (j + 1) = (s, (Cyc.loopsTo nx T j).2 ++ [k :: l]) := by
  show (_, _) = _
  rw [h]; simp
theorem loops_pre (nx : Nat → Nat) (T j : Nat) : ∀ d, (Cyc.loopsTo nx T j).2 <+: (Cyc.loopsTo nx T (j + d)).2
  | 0 => List.prefix_rfl
  | d + 1 => by
    refine (loops_pre nx T j d).trans ?_
    show _ <+: if (Cyc.trail nx T (Cyc.loopsTo nx T (j + d)).1 (j + d)).2 = [] then _ else _
    split
    · exact List.prefix_rfl
    · exact List.prefix_append _ _
theorem loops_pref {nx : Nat → Nat} {T j : Nat} (h : j ≤ T) : (Cyc.loopsTo nx T j).2 <+: Cyc.loops nx T := by
  have := loops_pre nx T j (T - j)
  rwa [show j + (T - j) = T by omega] at this
/-- memory behind a mark and an append to the loop's own row -/
theorem iter_step {w0 hi gz : Nat} {A B C : World} {cs : List Value} {o : Obj} {row : Option Nat} (hz : Has A gz 98 cs) (hw : w0 ≤ gz) (k : Nat) (u : Value) (hB : B = (A.setCell ⟨gz, k, none⟩ u).alloc o) (hg : B.grownBy C row) (hr : ∀ r, row = some r → hi ≤ r) (hwh : w0 ≤ hi) : IterS w0 hi A C := by
  have hsz : A.heap.size ≤ B.heap.size := by rw [hB]; simp
  refine ⟨hg.os.trans (by rw [hB]; rfl), hg.tape.trans (by rw [hB]; rfl), hg.output.trans (by rw [hB]; rfl), Nat.le_trans hsz hg.size, fun r hrA hx => ?_⟩
  have hne : r ≠ gz := by
    rcases hx with hx | ⟨_, hx⟩
    · omega
    · exact fun e => hx ⟨cs, by rw [e]; exact hz⟩
  have hlt : r < hi := by rcases hx with hx | hx <;> omega
  refine (hg.block r (Nat.lt_of_lt_of_le hrA hsz) (fun e => by have := hr r e.symm; omega)).trans ?_
  rw [hB]
  exact (Below.heap_alloc _ _ r (by simp; exact hrA)).trans (Below.heap_setCell _ _ _ _ hne)
set_option maxRecDepth 100000 in
set_option maxHeartbeats 4000000 in
theorem iterS (I : Nat → List Lp → World → Prop) (l dd b w0 bx gs T : Nat) (rc0 : Loop) (nx : Nat → Nat) (ns : List Int) (W : World) (hT : T ≤ 48) (hP : Cyc.Perm nx T) (hns : ∀ t, t < T → ns[t]? = some (nx t : Int)) (hnl : ns.length = 48)
    (hIc : ∀ hi pre V V', I hi pre V → IterS w0 hi V V' → KeepsOthers V V' → I hi pre V') (hl : l < W.heap.size) (hw0 : w0 ≤ W.heap.size) (hwl : w0 ≤ l)
    (hbx : bx < w0) (hbb : bx ≠ b) (hgs : gs < w0) (hgb : gs ≠ b) (h1 : W.cell? ⟨bx, 0, none⟩ = some (.pointer (some ⟨gs, 0, none⟩))) (hS : Has W gs 96 (ns.map vInt ++ [vInt (T : Int)]))
    (h0 : Mid (I w0) l dd rc0 [] W)
    (hY : ∀ hi pre x W1, (pre ++ [x]).map (·.2) <+: Cyc.loops nx T → OkL hi x W1 → hi ≤ W1.heap.size → Mid (I hi) l dd rc0 pre W1 → YieldAt Fence.wide 0 Try.prog l (encL x) W1 fun e W' => e = .returned (.bool true) ∧ Mid (I W'.heap.size) l dd rc0 (pre ++ [x]) W' ∧ KeepS b w0 l hi W1 W') :
    Calls Try.prog 54 #[.func (.yield l) #[] #[], .pointer (some ⟨bx, 0, none⟩)] W fun e W' => (∃ v, e = .returned v) ∧ ∃ hi xs, xs.map (·.2) = Cyc.loops nx T ∧ Mid (I hi) l dd rc0 xs W' := by
  have HP := Lib.hid hP; clear hP
  have HNS := Lib.hid hns; clear hns
  have HY := Lib.hid hY; clear hY
  have HIc := Lib.hid hIc; clear hIc
  have HS := Lib.hid hS
  have H1 := Lib.hid h1
  have t0 : W.cell? ⟨gs, 48, none⟩ = some (vInt (T : Int)) := by
    rw [hS.cell, List.getElem?_append_right (by rw [List.length_map, hnl]; exact Nat.le_refl _), List.length_map, hnl]; rfl
  have nz0 : bx ≠ W.heap.size := by omega
  have nz1 : gs ≠ W.heap.size := by omega
  have q0 : bx < W.heap.size := by omega
  have q1 : gs < W.heap.size := by omega
  have C0 : Cyc.cnt (fun _ => false) T ≤ T := Cyc.cnt_le _ _
  clear hS
  go_enter Try.func54, Try.ntmps54
  go_wp2
  go_loopw [11] (fun v wr => ∃ (hi j : Nat) (xs : List Lp), j ≤ T ∧ v = .int .i64 (j : Int) ∧ w0 ≤ hi ∧ hi ≤ wr.heap.size ∧ Hid (xs.map (·.2) = (Cyc.loopsTo nx T j).2) ∧ Hid (Mid (I hi) l dd rc0 xs wr) ∧ Hid (Has wr W.heap.size 98 (bz (Cyc.loopsTo nx T j).1)) ∧ Hid (∀ r, r < w0 → r ≠ b → wr.heap[r]? = W.heap[r]?)) (fun v _ => T - (intOf v).toNat)
  case atStart =>
    have hK : KeepsOthers W (W.alloc (.cells (bz (fun _ => false)).toArray 98)) := KeepsOthers.alloc _ _
    refine ⟨w0, 0, [], Nat.zero_le _, rfl, Nat.le_refl _, by simp; omega, rfl, ?_, Has.new rfl, ?_⟩
    · exact h0.go hK (HIc.out _ _ _ _ h0.inv ⟨rfl, rfl, rfl, by simp, fun r hr _ => Below.heap_alloc _ _ r hr⟩ hK)
    · exact fun r hr _ => Below.heap_alloc _ _ r (by omega)
  case round =>
    clear h0
    obtain ⟨hi, j, xs, hj, rfl, hwi, hhi, HX, HM, HZ, HK⟩ := hrel
    obtain ⟨wo, rfl⟩ : ∃ wo : World, wo = wr := ⟨_, rfl⟩
    have z0 := HZ.out.lt
    by_cases hlt : j < T
    · have jk : (j : Int) < (T : Int) := by omega
      obtain ⟨s0, hs0⟩ : ∃ s0, s0 = (Cyc.loopsTo nx T j).1 := ⟨_, rfl⟩
      rw [← hs0] at HZ
      have HS0 := Lib.hid hs0
      clear hs0
      go_wp2
      go_loopw [5, 6] (fun u v wr => ∃ (A : Option Addr) (c : Nat) (lm : List Nat) (f k : Nat) (s : Nat → Bool), u = .slice A lm.length c ∧ v = .int .i64 (k : Int) ∧ k < T ∧ f + lm.length = T ∧ Hid (lm = [] → A = none) ∧ Hid (Cyc.trail nx T s0 j = ((Cyc.trail nx f s k).1, lm ++ (Cyc.trail nx f s k).2)) ∧ Cyc.cnt s T ≤ f ∧ Hid (wr.ownsRow hi 3 1 (.slice A lm.length c) lm.length (lm.map vNat)) ∧ Hid (Mid (I hi) l dd rc0 xs wr) ∧ Hid (Has wr W.heap.size 98 (bz s)) ∧ Hid (∀ r, r < w0 → r ≠ b → wr.heap[r]? = W.heap[r]?) ∧ hi ≤ wr.heap.size) (fun u _ _ => match u with | .slice _ n _ => T - n | _ => 0)
      case atStart => exact ⟨none, 0, [], T, j, s0, rfl, rfl, hlt, rfl, fun _ => rfl, rfl, Cyc.cnt_le _ _, World.ownsRow_nil _ _ _ _, HM, HZ, HK, hhi⟩
      case round =>
        clear HM HZ HK hhi z0
        obtain ⟨A, c, lm, f, k, s, rfl, rfl, hkT, hf, HN, HTR, hc, HO, HM, HZ, HK, hhi⟩ := hrel
        obtain ⟨wo, rfl⟩ : ∃ wo : World, wo = wr := ⟨_, rfl⟩
        have z0 := HZ.out.lt
        have k48 : (k : Int) < 48 := by omega
        have k48' : k < 48 := by omega
        have b0 : wo.cell? ⟨W.heap.size, k, none⟩ = some (.bool (s k)) := (HZ.out.cell k).trans (bz_get s k48')
        cases hsk : s k with
        | false =>
          rw [hsk] at b0
          obtain ⟨f', rfl⟩ : ∃ f', f = f' + 1 := ⟨f - 1, by have := Cyc.cnt_pos s hkT hsk; omega⟩
          have HTF := Lib.hid (trail_false (nx := nx) hsk f')
          have hc2 := Cyc.cnt_upd s k hsk T hkT
          have hc3 : Cyc.cnt (Cyc.upd s k) T ≤ f' := by omega
          have hnk := HP.out.lt k hkT
          have f0 := HZ.out.free k
          have hne := HZ.out.ne_own HO.out (by decide)
          have hO1 := own_same (w' := wo.setCell ⟨W.heap.size, k, none⟩ (.bool true)) HO.out (fun g hg => Below.heap_setCell _ _ _ _ (fun e => hne (by rw [hg, e])))
          have HO1 := Lib.hid hO1
          have HZ1 := Lib.hid (HZ.out.set k (.bool true))
          have HRB : Hid (∀ r, (Value.slice A lm.length c).ownBlock = some r → hi ≤ r) := fun r hr => (HO.out.lt r hr).1
          have HCB : Hid (∀ r, (Value.slice A lm.length c).ownBlock = some r → ∃ cs, Has ((wo.setCell ⟨W.heap.size, k, none⟩ (.bool true)).alloc (.cells #[vNat k] 3)) r 3 cs) := fun r hr => own_cells2 (hO1.alloc _) hr
          have HNW : Hid (∀ (j : Nat) u, [vNat k][j]? = some u → ((wo.setCell ⟨W.heap.size, k, none⟩ (.bool true)).alloc (.cells #[vNat k] 3)).cell? ⟨wo.heap.size, j, none⟩ = some u) := by
            have h := news_new (wo.setCell ⟨W.heap.size, k, none⟩ (.bool true)) (vNat k) 3
            have hsz : (wo.setCell ⟨W.heap.size, k, none⟩ (.bool true)).heap.size = wo.heap.size := by simp [World.setCell]
            rw [hsz] at h; exact h
          have HNE := Lib.hid hne
          have hbk : k < 48 := k48'
          have q2 : bx < wo.heap.size := by omega
          have q3 : gs < wo.heap.size := by omega
          clear hsk hc2 hO1 hne hc
          go_wp2_with (at_builtin; go_loud (refine wpList_app rfl (.tmp 27) (.tmp 29) _ rfl hi 3 (.int .i64 0) 1 8 Try.underlying52 infoInt rfl (by omega) (by omega) _ _ _ rfl (HO1.out.alloc _) wo.heap.size [vNat k] rfl rfl HNW.out (one_int _ _) (by omega) (by first | (simp; done) | (simp; omega)) ?_; intro ga cap1 w2 hg1 hown1 hgrow1 hor1; have hIS := iter_step HZ.out hw0 k (.bool true) rfl hgrow1 HRB.out hwi; have y0 := (cell_same (a := ⟨bx, 0, none⟩) (hIS.same bx (by omega) (.inl hbx))).trans ((cell_same (a := ⟨bx, 0, none⟩) (HK.out bx hbx hbb)).trans H1.out); have y1 := (cell_same (a := ⟨gs, k, none⟩) (hIS.same gs (by omega) (.inl hgs))).trans ((cell_same (a := ⟨gs, k, none⟩) (HK.out gs hgs hgb)).trans ((HS.out.cell k).trans ((List.getElem?_append_left (by rw [List.length_map, hnl]; exact k48')).trans (show (ns.map vInt)[k]? = some (vInt (nx k : Int)) from by simp only [List.getElem?_map, HNS.out k hkT, Option.map_some])))); have y2 := Nat.lt_of_lt_of_le q2 hIS.size; have y3 := Nat.lt_of_lt_of_le q3 hIS.size))
          go_roundw
          case rel =>
            have hKO : KeepsOthers wo w2 := (KeepsOthers.setCell _ _ _).trans ((KeepsOthers.alloc _ _).trans (KeepsOthers.of_grownBy hgrow1 (fun r o hr ho => by
              obtain ⟨cs, hcs⟩ := HCB.out r hr
              unfold Has at hcs
              rw [hcs] at ho
              injection ho with ho
              rw [← ho]; rfl)))
            refine ⟨some ⟨ga, 0, none⟩, cap1, lm ++ [k], f', nx k, Cyc.upd s k, by rw [List.length_append]; rfl, rfl, hnk, by rw [List.length_append, List.length_singleton]; omega, fun h => by simp at h, ?_, hc3, ?_, HM.out.go hKO (HIc.out _ _ _ _ HM.out.inv hIS hKO), ?_, fun r hr hb => (hIS.same r (by omega) (.inl hr)).trans (HK.out r hr hb), Nat.le_trans hhi hIS.size⟩
            · show _ = _
              rw [HTR.out, HTF.out, List.append_assoc]; rfl
            · show World.ownsRow _ _ _ _ _ _ _
              rw [List.length_append, List.map_append]; exact hown1
            · show Has _ _ _ _
              rw [← bz_set]
              exact (HZ1.out.alloc _).same (hgrow1.block _ (HZ1.out.alloc _).lt (fun e => HNE.out e.symm))
          case measure => show T - (lm.length + 1) < T - lm.length; omega
        | true =>
          rw [hsk] at b0
          have HTT := Lib.hid (trail_true (nx := nx) hsk f)
          cases lm with
          | nil =>
            have hA := HN.out rfl
            subst hA
            have E := fun W => run_neqnil (P := Try.prog) W 52 3 none 0 c Try.underlying52
            clear hsk
            go_wp2
            go_roundw
            case rel =>
              have h2 := HTR.out
              rw [HTT.out, HS0.out] at h2
              have h3 := loops_nil h2
              exact ⟨hi, j + 1, xs, by omega, by go_num, hwi, hhi, by show _ = _; rw [h3]; exact HX.out, HM.out, by rw [h3]; exact HZ.out, HK.out⟩
            case measure => first | (simp [intOf]; done) | (simp [intOf]; omega)
          | cons k0 lm =>
            obtain ⟨g, rest, rfl, h1g, h2g, h3g⟩ := own_has HO.out (by simp)
            have E := fun W => run_neqnil (P := Try.prog) W 52 3 (some ⟨g, 0, none⟩) (lm.length + 1) c Try.underlying52
            have h2 := HTR.out
            rw [HTT.out, HS0.out] at h2
            have h3 := loops_cons (l := lm) (k := k0) (s := s) (by rw [h2, List.append_nil])
            have HL3 := Lib.hid h3
            have hpre : (xs ++ [(((some ⟨g, 0, none⟩ : Option Addr), c), k0 :: lm)]).map (·.2) <+: Cyc.loops nx T := by
              have h4 := loops_pref (nx := nx) (T := T) (j := j + 1) (by omega)
              rw [h3] at h4
              rw [List.map_append, HX.out]; exact h4
            have hY := HY.out hi xs ((some ⟨g, 0, none⟩, c), k0 :: lm) wo hpre HO.out hhi HM.out
            clear h2 h3 hpre
            have eM : encL ((some ⟨g, 0, none⟩, c), k0 :: lm) = #[.slice (some ⟨g, 0, none⟩) (lm.length + 1) c] := rfl
            rw [eM] at hY
            unfold YieldAt at hY
            obtain ⟨fn, tmps, assign, body, hy, hR⟩ := hY
            have HRR := Lib.hid hR
            clear hsk hR eM h2g h1g h3g
            go_upto_region 10 with (fail)
            refine (wpIn_wide (n := 0)).1 ?_
            gi_wp2
            refine ⟨rfl, HRR.out.mono ?_⟩
            rintro e w3 ⟨rfl, hM3, hKS⟩
            gi_wp2
            go_wp2
            go_roundw
            case rel =>
              have h3 := HL3.out
              refine ⟨w3.heap.size, j + 1, xs ++ [((some ⟨g, 0, none⟩, c), k0 :: lm)], by omega, by go_num, Nat.le_trans hwi (Nat.le_trans hhi hKS.1), Nat.le_refl _, ?_, Lib.hid hM3, ?_, fun r hr hb => (hKS.2 r (by omega) (by omega) (.inl ⟨hr, hb⟩)).trans (HK.out r hr hb)⟩
              · show _ = _
                rw [h3, List.map_append, HX.out]; rfl
              · show Has _ _ _ _
                rw [h3]
                exact HZ.out.same (hKS.2 _ z0 (by omega) (.inr (.inr ⟨_, HZ.out⟩)))
            case measure => first | (simp [intOf]; done) | (simp [intOf]; omega)
    · obtain rfl : j = T := by omega
      go_wp2
      go_end0
      exact ⟨⟨_, rfl⟩, hi, xs, HX.out, HM.out⟩
end Go.Proofs.Ytdimfbmbomgiaaa
/-
  Contract of cloth.Make: the cloth that a valid sheet makes.
-/
namespace Go.Proofs.Ytdimfbmbomgiaaa
open Go.RowKit
/-- an ending: a cloth in memory, and an error -/
def RetCE (t : Int) (xs ps : List Q4) (err : Int) (w : World) (e : Ending) (w' : World) : Prop := ∃ A n c B m d, e = .returned (.tuple #[vCloth t A n c B m d, .int .i64 err]) ∧ RdQ w' w'.heap.size A xs ∧ RdQ w' w'.heap.size B ps ∧ xs.length = n ∧ ps.length = m ∧ n ≤ c ∧ c ≤ 9223372036854775807 ∧ m ≤ d ∧ d ≤ 9223372036854775807 ∧ Below w.heap.size w w'
theorem qsC_len (ws : List Q4) : (qsC ws).length = ws.length * 4 := by
  induction ws with
  | nil => rfl
  | cons x ws ih => simp only [qsC, List.flatMap_cons, List.length_append] at ih ⊢; rw [ih]; simp [q4C]; omega
theorem qsC_get {ws : List Q4} {k : Nat} {x : Q4} (hx : ws[k]? = some x) : (qsC ws)[k*4]? = some (.int .i64 x.a) ∧ (qsC ws)[k*4+1]? = some (.int .i64 x.b) ∧ (qsC ws)[k*4+2]? = some (.int .i64 x.c) ∧ (qsC ws)[k*4+3]? = some (.int .i64 x.d) := by
  induction ws generalizing k with
  | nil => simp at hx
  | cons y ws ih =>
    cases k with
    | zero => simp at hx; subst hx; simp [qsC, q4C]
    | succ k =>
      have := ih (k := k) (by simpa using hx)
      have e1 : (k + 1) * 4 = k * 4 + 4 := by omega
      simp only [qsC, List.flatMap_cons] at this ⊢
      rw [e1]
      have hl : (q4C y).length = 4 := rfl
      refine ⟨?_, ?_, ?_, ?_⟩ <;> (rw [List.getElem?_append_right (by rw [hl]; omega), hl])
      · rw [show k * 4 + 4 - 4 = k * 4 by omega]; exact this.1
      · rw [show k * 4 + 4 + 1 - 4 = k * 4 + 1 by omega]; exact this.2.1
      · rw [show k * 4 + 4 + 2 - 4 = k * 4 + 2 by omega]; exact this.2.2.1
      · rw [show k * 4 + 4 + 3 - 4 = k * 4 + 3 by omega]; exact this.2.2.2
theorem own_rdQ {w : World} {base : Nat} {e : TypeId} {n c : Nat} {A : Option Addr} {ws : List Q4} (h : w.ownsRow base e 4 (.slice A n c) n (qsC ws)) : RdQ w w.heap.size A ws := fun k x hx => by
  obtain ⟨e1, e2, e3, e4⟩ := qsC_get hx
  obtain ⟨g, h1, _, h2, h3⟩ := own_at h e1
  obtain ⟨g2, h4, _, _, h5⟩ := own_at h e2
  obtain ⟨g3, h6, _, _, h7⟩ := own_at h e3
  obtain ⟨g4, h8, _, _, h9⟩ := own_at h e4
  obtain rfl : g = g2 := by rw [h1] at h4; injection h4 with h4; injection h4
  obtain rfl : g = g3 := by rw [h1] at h6; injection h6 with h6; injection h6
  obtain rfl : g = g4 := by rw [h1] at h8; injection h8 with h8; injection h8
  exact ⟨g, 0, h1, h2, by rw [Nat.zero_add]; exact h3, by rw [Nat.zero_add]; exact h5, by rw [Nat.zero_add]; exact h7, by rw [Nat.zero_add]; exact h9⟩
set_option maxRecDepth 100000 in
set_option maxHeartbeats 4000000 in
theorem make11 (p : Int) (A : Option Addr) (n c : Nat) (ws : List Wk) (w : World) (hn : n ≤ 9223372036854775807) (hw : RdW w w.heap.size A ws) (hl : ws.length = n) (hE : schk p ws = 0) :
    Calls Try.prog 52 #[.agg #[.int .i64 p, .slice A n c]] w (RetCE (2 * p) (Mk.works ws n).xs (Mk.works ws n).ps 0 w) := by
  have HOK := Lib.hid (schk_zero hE)
  have hp2 := HOK.out.ge
  have hp24 := HOK.out.le
  have hn4 : n ≤ 400 := by rw [← hl]; exact HOK.out.len
  have HSZ := Lib.hid (fun k => Mk.works_xs HOK.out.short k)
  have C1 := Lib.hid (fun (W : World) (hb : Below w.heap.size w W) => shCheck p A n c ws W hn (hw.up hb) hl (fun x hx => Nat.le_trans (HOK.out.short x hx) (by omega)))
  rw [hE] at C1
  have HW := Lib.hid hw
  have HL := Lib.hid hl
  clear hw hl hE
  have i0 : IntKind.i64.wrap (2 * p) = 2 * p := IntWalk.i64_in _ (by omega)
  go_enter Try.func52, Try.ntmps52
  go_wp2_with fail
  refine (C1.out _ (by go_grown)).mono ?_
  rintro e w1 ⟨rfl, hb1⟩
  have K1 : Has w1 w.heap.size 24 [.int .i64 p, .slice A n c] := ((Has.new rfl).alloc _).below hb1 (by simp; omega)
  have K2 : Has w1 (w.heap.size + 1) 49 [.int .i64 0, .slice none 0 0, .slice none 0 0] := (Has.new2 rfl).below hb1 (by simp)
  have B1 : Below w.heap.size w w1 := bvia (show Below w.heap.size w _ by go_grown) hb1
  have a0 : w1.cell? ⟨w.heap.size, 0, none⟩ = some (.int .i64 p) := K1.cell 0
  have q := K1.lt
  have qq := K2.lt
  go_wp2_with fail
  refine (begun57 _).mono ?_
  rintro e w2 ⟨rfl, hb2⟩
  have hlen : ((lineL 48).map vInt).length = 48 := by simp [lineL_len]
  have hinfo : (Try.prog.info? 109).map (·.size) = some 48 := by kernel_rfl
  have K3 : Has (w1.alloc (.cells #[.int .i64 (2 * p), .slice none 0 0, .slice none 0 0] 49)) w1.heap.size 49 [.int .i64 (2 * p), .slice none 0 0, .slice none 0 0] := Has.new rfl
  have L3 := Lib.hid (K3.below hb2 K3.lt)
  have B2 : Below w1.heap.size w1 w2 := bvia (show Below w1.heap.size w1 _ by go_grown) hb2
  clear K3 a0 q hb1
  go_wp2_with (first | (refine wpList_store_has rfl 109 (.tmp 6) (.tmp 28) rfl w2.heap.size ((lineL 48).map vInt) rfl rfl 109 _ (Has.new rfl) (by rw [hlen, hinfo]) (by rw [hlen]; rfl) (by simp [lineL]; intros; rfl) ?_) | fail)
  intro w3 hG3 hBut
  have hb3 : Below w2.heap.size w2 w3 := ((Below.refl _ w2).alloc (Nat.le_refl _) _).trans (hBut.below (Nat.le_refl _) (by simp))
  have B3 := bvia B2 hb3
  have M1 := Lib.hid (K1.below B3 K1.lt)
  have M2 := Lib.hid (K2.below B3 K2.lt)
  have MC := L3.out.below hb3 L3.out.lt
  obtain ⟨gc, hgc⟩ : ∃ gc, gc = w1.heap.size := ⟨_, rfl⟩
  obtain ⟨gl, hgl⟩ : ∃ gl, gl = w2.heap.size := ⟨_, rfl⟩
  have hcl : gc < gl := by rw [hgc, hgl]; exact L3.out.lt
  have hwc : w.heap.size + 1 < gc := by rw [hgc]; exact K2.lt
  have h3 := hG3.lt
  rw [← hgl] at hG3 h3 ⊢
  rw [← hgc] at MC B3 ⊢
  have HI0 : Hid (MkI w1 w3 gc gl (gl + 1) (2 * p) (Mk.works ws 0) none 0 0 none 0 0) := ⟨MC, hG3, World.ownsRow_nil _ _ _ _, World.ownsRow_nil _ _ _ _, B3, Nat.le_of_eq hgc, hcl, Nat.lt_succ_self _, h3, rfl, rfl⟩
  have HWC := Lib.hid hgc
  have KK2 := Lib.hid K2
  have a1 : w3.cell? ⟨w.heap.size, 1, none⟩ = some (.slice A n c) := M1.out.cell 1
  have q := M1.out.lt
  clear hG3 hBut hlen hinfo L3 K1 K2 qq MC hb2 B2 hb3 hgc hgl h3
  go_wp2
  go_loopw [32] (fun i wr => ∃ (k : Nat) (X : Option Addr) (nx cx : Nat) (P : Option Addr) (np cp : Nat), k ≤ n ∧ i = .int .i64 (k : Int) ∧ Hid (MkI w1 wr gc gl (gl + 1) (2 * p) (Mk.works ws k) X nx cx P np cp)) (fun i _ => n - (intOf i).toNat)
  case atStart => exact ⟨0, none, 0, 0, none, 0, 0, Nat.zero_le _, rfl, HI0⟩
  case round =>
    clear HI0 B3 M1 M2 a1 q
    obtain ⟨k, X, nx, cx, P, np, cp, hk, rfl, HI⟩ := hrel
    obtain ⟨wo, rfl⟩ : ∃ wo : World, wo = wr := ⟨_, rfl⟩
    have hz := HI.out.sz
    by_cases hlt : k < n
    · obtain ⟨x, hx⟩ := get_of_lt (l := ws) (k := k) (by rw [HL.out]; exact hlt)
      obtain ⟨hkd, ha0, ha1, hk2⟩ := bad_at (HOK.out.good x (mem_of_get hx))
      have hsz := HOK.out.short x (mem_of_get hx)
      have hform := Lib.hid (HOK.out.form x (mem_of_get hx))
      obtain ⟨a, ha⟩ := Int.eq_ofNat_of_zero_le ha0
      obtain ⟨mid, hmid⟩ : ∃ mid, mid = 2 * a + 1 := ⟨_, rfl⟩
      have hmid2 : mid + 2 < 48 := by omega
      have hmid1 : 1 ≤ mid := by omega
      have i1 : IntKind.i64.wrap (2 * (a : Int)) = 2 * (a : Int) := IntWalk.i64_in _ (by omega)
      have i2 : IntKind.i64.wrap (2 * (a : Int) + 1) = (mid : Int) := by rw [IntWalk.i64_in _ (by omega), hmid]; omega
      have HMM : Hid (mkMid x = mid) := by show mkMid x = mid; unfold mkMid; rw [ha, hmid]; simp
      obtain ⟨ba, o, rfl, hba, c0, c1, c2⟩ := (HW.out.up (B1.trans (HI.out.b.mono (by omega)))) _ x hx
      have HXA : Hid (x.at_ = (a : Int)) := ha
      rw [ha] at c1
      have HX := Lib.hid hx
      have jn : (k : Int) < (n : Int) := by omega
      clear hx ha0 ha1 hmid ha
      obtain ⟨w5, hw5⟩ : ∃ w5, w5 = (wo.alloc (.cells #[.int .i64 (k : Int)] 3)).alloc (.cells #[.int .i64 x.kind, .int .i64 (a : Int), .string x.word] 63) := ⟨_, rfl⟩
      have hb5 : Below wo.heap.size wo w5 := by rw [hw5]; go_grown
      have N1 : Has w5 wo.heap.size 3 [.int .i64 (k : Int)] := by rw [hw5]; exact (Has.new rfl).alloc _
      have N2 : Has w5 (wo.heap.size + 1) 63 [.int .i64 x.kind, .int .i64 (a : Int), .string x.word] := by rw [hw5]; exact Has.new2 rfl
      go_upto_region 9 with (fail)
      rw [← hw5]
      have k1 : w5.cell? ⟨wo.heap.size + 1, 1, none⟩ = some (.int .i64 (a : Int)) := N2.cell 1
      have q5 := N2.lt
      obtain ⟨w6, hw6⟩ : ∃ w6, w6 = w5.alloc (.cells #[.int .i64 (mid : Int)] 3) := ⟨_, rfl⟩
      have hb6 : Below w5.heap.size w5 w6 := by rw [hw6]; go_grown
      have N3 : Has w6 w5.heap.size 3 [.int .i64 (mid : Int)] := by rw [hw6]; exact Has.new rfl
      clear hw5
      go_upto_region 10 with (fail)
      rw [← hw6]
      have HI6 := Lib.hid ((HI.out.below hb5).below hb6)
      obtain ⟨gi, hgi⟩ : ∃ gi, gi = wo.heap.size := ⟨_, rfl⟩
      obtain ⟨gw, hgw⟩ : ∃ gw, gw = wo.heap.size + 1 := ⟨_, rfl⟩
      obtain ⟨gm, hgm⟩ : ∃ gm, gm = w5.heap.size := ⟨_, rfl⟩
      have HJ6 : Hid (MkJ w6 (gl + 1) gi gw gm (k : Int) x mid) := by
        refine ⟨?_, ?_, ?_, by omega, by omega, by have := hb5.size; omega⟩
        · rw [hgi]; exact N1.below hb6 N1.lt
        · rw [hgw]; unfold wkCells; rw [HXA.out]; exact N2.below hb6 N2.lt
        · rw [hgm]; exact N3
      rw [← hgm]
      rw [← hgw]
      rw [← hgi]
      have k0 : w6.cell? ⟨gw, 0, none⟩ = some (.int .i64 x.kind) := HJ6.out.w.cell 0
      have k2 : w6.cell? ⟨gw, 2, none⟩ = some (.string x.word) := HJ6.out.w.cell 2
      have q6 := HJ6.out.w.lt
      clear hw6 N1 N2 N3 hb5 hb6 k1 c0 c1 c2 hba HI hgi hgw hgm q5 i1 i2 hz
      have HNX : Hid (nx ≤ 19200 ∧ np ≤ 6800) := by
        have h1 := HI6.out.nxs; have h2 := HI6.out.nps
        obtain ⟨h3, h4⟩ := HSZ.out k
        exact ⟨by omega, by omega⟩
      have HSW := Lib.hid (Mk.works_succ HX.out)
      have HLS := Lib.hid (Mk.works_len ws k)
      by_cases hk : x.kind = 2
      · have hz0 := hk2 hk
        have HWK : Hid (Mk.works ws (k + 1) = (Mk.works ws k).pin (k : Int) mid) := by
          show Mk.works ws (k + 1) = (Mk.works ws k).pin (k : Int) mid
          rw [HSW.out]
          unfold Mk.work
          rw [if_pos hk, HMM.out, show x.word.data.toList.length = 0 by rw [str_len]; exact hz0]
          rfl
        have J := Lib.hid (pinMk HI6.out HJ6.out HLS.out (by omega) (by have := HNX.out; omega))
        clear hk2
        go_wp2_with fail
        refine J.out.mono ?_
        rintro e w7 ⟨⟨v, rfl⟩, P', c', hi7, hj7⟩
        have HI7 := Lib.hid hi7; clear hi7
        have k7 : w7.cell? ⟨gw, 2, none⟩ = some (.string x.word) := hj7.w.cell 2
        have q7 := hj7.w.lt
        clear J HI6 HJ6 k0 k2 q6
        go_wp2
        go_loopw [50] (fun i wr => i = .int .i64 0 ∧ Hid (w7 = wr)) (fun i _ => 0)
        case atStart => exact ⟨rfl, Lib.hid rfl⟩
        case round =>
          obtain ⟨rfl, HE⟩ := hrel
          go_wp2
          go_roundw
          case rel => exact ⟨k + 1, X, nx, cx, P', np + 1, c', by omega, by go_num, Lib.hid (by rw [HWK.out, ← HE.out]; exact HI7.out)⟩
          case measure => first | (simp [intOf]; done) | (simp [intOf]; omega)
      · have hd : (x.kind == 2) = false := by simpa using hk
        have hm : x.word.data.toList.length = x.word.size := str_len _
        have HWK : Hid (Mk.works ws (k + 1) = (Mk.works ws k).letters (k : Int) mid x.word.data.toList x.word.size) := by
          show Mk.works ws (k + 1) = (Mk.works ws k).letters (k : Int) mid x.word.data.toList x.word.size
          rw [HSW.out]
          unfold Mk.work
          rw [if_neg hk, HMM.out, hm]
        have hsz64 : x.word.size ≤ 9223372036854775807 := by omega
        clear hk2 hm
        go_wp2
        go_loopw [50] (fun i wr => ∃ (j : Nat) (X : Option Addr) (nx cx : Nat) (P : Option Addr) (np cp : Nat), j ≤ x.word.size ∧ i = .int .i64 (j : Int) ∧ Hid (MkI w1 wr gc gl (gl + 1) (2 * p) ((Mk.works ws k).letters (k : Int) mid x.word.data.toList j) X nx cx P np cp) ∧ Hid (MkJ wr (gl + 1) gi gw gm (k : Int) x mid)) (fun i _ => x.word.size - (intOf i).toNat)
        case atStart => exact ⟨0, X, nx, cx, P, np, cp, Nat.zero_le _, rfl, HI6, HJ6⟩
        case round =>
          clear HI6 HJ6 k0 k2 q6 HNX
          obtain ⟨j, X, nx, cx, P, np, cp, hj, rfl, HI, HJ⟩ := hrel
          obtain ⟨wo, rfl⟩ : ∃ wo : World, wo = wr := ⟨_, rfl⟩
          by_cases hlj : j < x.word.size
          · have hget : x.word.data.toList[j]? = some x.word[j] := by
              rw [Array.getElem?_toList]
              exact Array.getElem?_eq_getElem hlj
            have hlet : isLet x.word[j] = true := (List.all_eq_true.1 hform.out) _ (mem_of_get hget)
            have jm : (j : Int) < (x.word.size : Int) := by omega
            have HNX : Hid (nx ≤ 19200 + 48 ∧ np ≤ 6800 + 16) := by
              have h1 := HI.out.nxs; have h2 := HI.out.nps
              obtain ⟨h3, h4⟩ := HSZ.out k
              have h5 := Mk.letters_xs (Mk.works ws k) (k : Int) mid x.word.data.toList j
              have h6 := Mk.letters_ps (Mk.works ws k) (k : Int) mid x.word.data.toList j
              exact ⟨by omega, by omega⟩
            have HLL := Lib.hid ((Mk.letters_len (Mk.works ws k) (k : Int) mid x.word.data.toList j).trans HLS.out)
            have HLE := Lib.hid (Mk.letters_succ (s := Mk.works ws k) (i := (k : Int)) (mid := mid) hget)
            have k2 : wo.cell? ⟨gw, 2, none⟩ = some (.string x.word) := HJ.out.w.cell 2
            have q6 := HJ.out.w.lt
            by_cases hc : x.word[j] = 80
            · have hc2 : ((x.word[j].toNat : Int) == 80) = true := by rw [hc]; rfl
              have HLE2 : Hid ((Mk.works ws k).letters (k : Int) mid x.word.data.toList (j + 1) = ((Mk.works ws k).letters (k : Int) mid x.word.data.toList j).pin (k : Int) mid) := by
                show (Mk.works ws k).letters (k : Int) mid x.word.data.toList (j + 1) = _
                rw [HLE.out]
                unfold Mk.letter
                rw [if_pos hc]
              have J := Lib.hid (pinMk HI.out HJ.out HLL.out (by omega) (by have := HNX.out; omega))
              clear hget hlet hc
              go_wp2_with fail
              refine J.out.mono ?_
              rintro e w7 ⟨⟨v, rfl⟩, P', c', hi7, hj7⟩
              have HI7 := Lib.hid hi7; clear hi7
              have HJ7 := Lib.hid hj7; clear hj7
              clear J HI HJ k2 q6
              go_wp2
              go_roundw
              case rel => exact ⟨j + 1, X, nx, cx, P', np + 1, c', by omega, by go_num, Lib.hid (by rw [HLE2.out]; exact HI7.out), HJ7⟩
              case measure => first | (simp [intOf]; done) | (simp [intOf]; omega)
            · have hc2 : ((x.word[j].toNat : Int) == 80) = false := by
                rw [beq_eq_false_iff_ne]
                intro hh
                exact hc (UInt8.toNat_inj.1 (show x.word[j].toNat = 80 by omega))
              have HLE2 : Hid ((Mk.works ws k).letters (k : Int) mid x.word.data.toList (j + 1) = ((Mk.works ws k).letters (k : Int) mid x.word.data.toList j).crosses (k : Int) mid (crW [x.word[j]] 1) (crW [x.word[j]] 1).length) := by
                show (Mk.works ws k).letters (k : Int) mid x.word.data.toList (j + 1) = _
                rw [HLE.out]
                unfold Mk.letter
                rw [if_neg hc]
              have i3 : IntKind.i64.wrap ((j : Int) + 1) = (j : Int) + 1 := IntWalk.i64_in _ (by omega)
              have i4 : ((j : Int) + 1).toNat = j + 1 := by omega
              have i5 : (j : Int) + 1 ≤ (x.word.size : Int) := by omega
              have SL := fun W => slice1 x.word j hlj W
              obtain ⟨he1, he2⟩ := ext_ok hlj hlet
              have J := Lib.hid (crossings39o (x.word.extract j (j + 1)) wo (by omega) he2)
              rw [he1, ext_one x.word j hlj] at J
              obtain ⟨ns, hns⟩ : ∃ ns, ns = crW [x.word[j]] 1 := ⟨_, rfl⟩
              have HNS : Hid (ns.length ≤ 3 ∧ ∀ n ∈ ns, n ≠ 0 ∧ -3 ≤ n ∧ n ≤ 3) := by rw [hns]; exact ⟨crW_len _ 1, crL_mem _⟩
              rw [← hns] at J HLE2
              clear hget hlet hc he1 he2 hns HLE i3
              have i3 : IntKind.i64.wrap ((j : Int) + 1) = (j : Int) + 1 := IntWalk.i64_in _ (by omega)
              go_wp2_with fail
              refine J.out.mono ?_
              rintro e w7 ⟨An, nn, cn, rfl, rn, ln, hb7⟩
              have HRN := Lib.hid (own_mono rn HI.out.sz); clear rn
              have HI7 := Lib.hid (HI.out.below hb7)
              have HJ7 := Lib.hid (HJ.out.below hb7)
              have HLN := Lib.hid ln
              have hnn3 : nn ≤ 3 := by rw [← ln]; exact HNS.out.1
              clear J HI HJ k2 q6 SL i3 i4 i5 hc2 hb7 ln
              go_wp2
              go_loopw [72] (fun i wr => ∃ (q : Nat) (X : Option Addr) (nx cx : Nat), q ≤ nn ∧ i = .int .i64 (q : Int) ∧ Hid (MkI w1 wr gc gl (gl + 1) (2 * p) (((Mk.works ws k).letters (k : Int) mid x.word.data.toList j).crosses (k : Int) mid ns q) X nx cx P np cp) ∧ Hid (MkJ wr (gl + 1) gi gw gm (k : Int) x mid) ∧ Hid (wr.ownsRow (gl + 1) 3 1 (.slice An nn cn) nn (ns.map vInt))) (fun i _ => nn - (intOf i).toNat)
              case atStart => exact ⟨0, X, nx, cx, Nat.zero_le _, rfl, HI7, HJ7, HRN⟩
              case round =>
                clear HI7 HJ7 HRN HNX
                obtain ⟨q, X, nx, cx, hq, rfl, HI, HJ, HRN⟩ := hrel
                obtain ⟨wo, rfl⟩ : ∃ wo : World, wo = wr := ⟨_, rfl⟩
                by_cases hlq : q < nn
                · obtain ⟨u, hu⟩ := get_of_lt (l := ns) (k := q) (by rw [HLN.out]; exact hlq)
                  obtain ⟨hu0, hu1, hu2⟩ := HNS.out.2 u (mem_of_get hu)
                  obtain ⟨gn, rfl, hgn, hgn2, hcu⟩ := own_at HRN.out (j := q) (u := vInt u) (by rw [List.getElem?_map, hu]; rfl)
                  have HNX : Hid (nx ≤ 19200 + 51) := by
                    have h1 := HI.out.nxs
                    obtain ⟨h3, h4⟩ := HSZ.out k
                    have h5 := Mk.letters_xs (Mk.works ws k) (k : Int) mid x.word.data.toList j
                    have h6 := Mk.crosses_xs ((Mk.works ws k).letters (k : Int) mid x.word.data.toList j) (k : Int) mid ns q
                    show nx ≤ 19200 + 51
                    omega
                  have HLL2 := Lib.hid ((Mk.crosses_len ((Mk.works ws k).letters (k : Int) mid x.word.data.toList j) (k : Int) mid ns q).trans HLL.out)
                  have HCE := Lib.hid (Mk.crosses_succ (s := (Mk.works ws k).letters (k : Int) mid x.word.data.toList j) (i := (k : Int)) (mid := mid) hu)
                  have km : wo.cell? ⟨gm, 0, none⟩ = some (.int .i64 (mid : Int)) := HJ.out.m.cell 0
                  have qn : (q : Int) < (nn : Int) := by omega
                  have qm := HJ.out.m.lt
                  have i1 : IntKind.i64.wrap ((mid : Int) - 2) = (mid : Int) - 2 := IntWalk.i64_in _ (by omega)
                  have i2 : IntKind.i64.wrap (-u) = -u := IntWalk.i64_in _ (by omega)
                  obtain ⟨t, ht⟩ : ∃ t : Nat, (mid : Int) - 2 + (if u < -u then -u else u) = (t : Int) := Int.eq_ofNat_of_zero_le (by split <;> omega)
                  have ht48 : t + 1 < 48 := by split at ht <;> omega
                  have HMA : Hid (mkAt mid u = (t : Int)) := ht
                  obtain ⟨la, hla⟩ := get_of_lt (l := (((Mk.works ws k).letters (k : Int) mid x.word.data.toList j).crosses (k : Int) mid ns q).l) (k := t) (by rw [HLL2.out]; omega)
                  obtain ⟨lb, hlb⟩ := get_of_lt (l := (((Mk.works ws k).letters (k : Int) mid x.word.data.toList j).crosses (k : Int) mid ns q).l) (k := t + 1) (by rw [HLL2.out]; omega)
                  have HLA := Lib.hid hla
                  have HLB := Lib.hid hlb
                  go_upto_region 23 with (fail)
                  clear ht hla hlb km qm i1 i2 hcu qn
                  have j1 : (t : Int) < 48 := by omega
                  have j2 : t < 48 := by omega
                  have j3 : IntKind.i64.wrap ((t : Int) + 1) = (t : Int) + 1 := IntWalk.i64_in _ (by omega)
                  have j4 : (t : Int) + 1 < 48 := by omega
                  have j5 : (0 : Int) ≤ (t : Int) + 1 := by omega
                  have j6 : ((t : Int) + 1).toNat = t + 1 := by omega
                  have ki : wo.cell? ⟨gi, 0, none⟩ = some (.int .i64 (k : Int)) := HJ.out.i.cell 0
                  have ka : wo.cell? ⟨gl, t, none⟩ = some (.int .i64 la) := (HI.out.g.cell t).trans (by rw [List.getElem?_map, HLA.out]; rfl)
                  have kb : wo.cell? ⟨gl, t + 1, none⟩ = some (.int .i64 lb) := (HI.out.g.cell (t + 1)).trans (by rw [List.getElem?_map, HLB.out]; rfl)
                  have qi := HJ.out.i.lt
                  have ql := HI.out.g.lt
                  go_region_held3 (fun W => W.cell? ⟨gi, 0, none⟩ = some (.int .i64 (k : Int)) ∧ W.cell? ⟨gl, t, none⟩ = some (.int .i64 la) ∧ W.cell? ⟨gl, t + 1, none⟩ = some (.int .i64 lb)) (go_keep) (fail)
                  obtain ⟨w5, hw5⟩ : ∃ w5, w5 = (wo.alloc (.cells #[.int .i64 (k : Int), .int .i64 (t : Int), .int .i64 la, .int .i64 lb] 83)).drew := ⟨_, rfl⟩
                  rw [← hw5]
                  obtain ⟨gx, hgx⟩ : ∃ gx, gx = wo.heap.size := ⟨_, rfl⟩
                  rw [← hgx]
                  have hb5 : Below wo.heap.size wo w5 := by rw [hw5]; exact ((Below.refl _ wo).alloc (Nat.le_refl _) _).drew
                  have K5 : Has w5 gx 83 [.int .i64 (k : Int), .int .i64 (t : Int), .int .i64 la, .int .i64 lb] := by rw [hw5, hgx]; exact (Has.new rfl).drew
                  have HGX := Lib.hid hgx
                  clear hgx
                  clear ki ka kb j1 j2 j3 j4 j5 j6 hw5 qi ql
                  by_cases hneg : u < 0
                  · obtain ⟨w6, hw6⟩ : ∃ w6, w6 = (w5.setCell ⟨gx, 2, none⟩ (.int .i64 lb)).setCell ⟨gx, 3, none⟩ (.int .i64 la) := ⟨_, rfl⟩
                    have hb6 : Below wo.heap.size wo w6 := by rw [hw6, HGX.out]; exact (hb5.setCell (Nat.le_refl _) _).setCell (Nat.le_refl _) _
                    have K6 : Has w6 gx 83 [.int .i64 (k : Int), .int .i64 (t : Int), .int .i64 lb, .int .i64 la] := by rw [hw6]; exact ((K5.set 2 _).set 3 _)
                    have x2 : w5.cell? ⟨gx, 2, none⟩ = some (.int .i64 la) := K5.cell 2
                    have x3 : w5.cell? ⟨gx, 3, none⟩ = some (.int .i64 lb) := K5.cell 3
                    have f2 := K5.free 2
                    have f3 := K5.free 3
                    have qx := K5.lt
                    go_upto_region 26 with (fail)
                    rw [← hw6]
                    clear hw6 x2 x3 f2 f3 qx
                    have HI6 := HI.out.below hb6
                    have HI6a := Lib.hid (HI6.below ((Below.refl _ w6).alloc (Nat.le_refl _) (.cells #[.int .i64 (k : Int), .int .i64 (t : Int), .int .i64 lb, .int .i64 la] 83)))
                    have HJ6a := Lib.hid ((HJ.out.below hb6).below ((Below.refl _ w6).alloc (Nat.le_refl _) (.cells #[.int .i64 (k : Int), .int .i64 (t : Int), .int .i64 lb, .int .i64 la] 83)))
                    have HR6a := Lib.hid (own_below (own_below HRN.out hb6) ((Below.refl _ w6).alloc (Nat.le_refl _) (.cells #[.int .i64 (k : Int), .int .i64 (t : Int), .int .i64 lb, .int .i64 la] 83)))
                    have y1 : w6.cell? ⟨gc, 1, none⟩ = some (.slice X nx cx) := HI6.c.cell 1
                    have qc := HI6.c.lt
                    have x0 : w6.cell? ⟨gx, 0, none⟩ = some (.int .i64 (k : Int)) := K6.cell 0
                    have x1 : w6.cell? ⟨gx, 1, none⟩ = some (.int .i64 (t : Int)) := K6.cell 1
                    have x2 : w6.cell? ⟨gx, 2, none⟩ = some (.int .i64 lb) := K6.cell 2
                    have x3 : w6.cell? ⟨gx, 3, none⟩ = some (.int .i64 la) := K6.cell 3
                    have qx := K6.lt
                    have hbs : gl + 1 ≤ w6.heap.size := HI6.sz
                    clear HI6 K6 hb6
                    go_wp2_with (first | (at_builtin; refine wpList_app rfl (.tmp 102) (.tmp 104) _ rfl (gl + 1) 83 (.agg #[.int .i64 0, .int .i64 0, .int .i64 0, .int .i64 0]) 4 32 Try.underlying46 infoCr rfl (by omega) (by omega) _ _ _ rfl HI6a.out.ox w6.heap.size [.int .i64 (k : Int), .int .i64 (t : Int), .int .i64 lb, .int .i64 la] rfl rfl (news4 _ _ _ _ _ _) (one4 _ _ _ _) (by have := HNX.out; omega) (by simp; omega) ?_; intro ga cap1 w7 hg1 hown1 hgrow1 hor1; have HC7 : Has w7 gc _ _ := HI6a.out.c.same (hgrow1.block gc HI6a.out.c.lt (fun e => (HI6a.out.c.ne_own HI6a.out.ox (by decide)) e.symm)); have z1 : w7.cell? ⟨gc, 1, none⟩ = some (.slice X nx cx) := HC7.cell 1; have f1 := HC7.free 1; have q7 := HC7.lt) | fail)
                    have HI8 := Lib.hid (HI6a.out.crossed ⟨(k : Int), (t : Int), lb, la⟩ hown1 hgrow1)
                    have HJ8 := Lib.hid (HJ6a.out.crossed HI6a.out hgrow1 (.slice (some ⟨ga, 0, none⟩) (nx + 1) cap1))
                    have HR8 := Lib.hid (row_crossed HR6a.out HI6a.out hgrow1 (.slice (some ⟨ga, 0, none⟩) (nx + 1) cap1))
                    refine (swap65 gl t _ la lb _ HI8.out.g ht48 (by rw [List.getElem?_map, HLA.out]; rfl) (by rw [List.getElem?_map, HLB.out]; rfl)).mono ?_
                    rintro e w9 ⟨⟨v, rfl⟩, hg9, hk9, _⟩
                    have HI9 := Lib.hid (HI8.out.swapped (((((Mk.works ws k).letters (k : Int) mid x.word.data.toList j).crosses (k : Int) mid ns q).l.set t lb).set (t + 1) la) (by rw [List.map_set, List.map_set]; exact hg9) hk9)
                    have HJ9 := Lib.hid (HJ8.out.swapped HI8.out hk9)
                    have HR9 := Lib.hid (row_swapped HR8.out HI8.out hk9)
                    have HCE2 := Lib.hid (HCE.out.trans (Mk.cross_eq HMA.out HLA.out HLB.out))
                    clear HI8 HJ8 HR8 hg9 hk9 HI6a HJ6a HR6a hown1 hgrow1 hor1 HC7 z1 f1 q7 y1 x0 x1 x2 x3
                    go_wp2
                    go_roundw
                    case rel => exact ⟨q + 1, some ⟨ga, 0, none⟩, nx + 1, cap1, by omega, by go_num, Lib.hid (by rw [HCE2.out, if_pos (by omega)]; exact HI9.out), HJ9, HR9⟩
                    case measure => first | (simp [intOf]; done) | (simp [intOf]; omega)
                  · obtain ⟨w6, hw6⟩ : ∃ w6, w6 = w5 := ⟨_, rfl⟩
                    have hb6 : Below wo.heap.size wo w6 := by rw [hw6]; exact hb5
                    have K6 : Has w6 gx 83 [.int .i64 (k : Int), .int .i64 (t : Int), .int .i64 la, .int .i64 lb] := by rw [hw6]; exact K5
                    go_upto_region 26 with (fail)
                    rw [← hw6]
                    clear hw6
                    have HI6 := HI.out.below hb6
                    have HI6a := Lib.hid (HI6.below ((Below.refl _ w6).alloc (Nat.le_refl _) (.cells #[.int .i64 (k : Int), .int .i64 (t : Int), .int .i64 la, .int .i64 lb] 83)))
                    have HJ6a := Lib.hid ((HJ.out.below hb6).below ((Below.refl _ w6).alloc (Nat.le_refl _) (.cells #[.int .i64 (k : Int), .int .i64 (t : Int), .int .i64 la, .int .i64 lb] 83)))
                    have HR6a := Lib.hid (own_below (own_below HRN.out hb6) ((Below.refl _ w6).alloc (Nat.le_refl _) (.cells #[.int .i64 (k : Int), .int .i64 (t : Int), .int .i64 la, .int .i64 lb] 83)))
                    have y1 : w6.cell? ⟨gc, 1, none⟩ = some (.slice X nx cx) := HI6.c.cell 1
                    have qc := HI6.c.lt
                    have x0 : w6.cell? ⟨gx, 0, none⟩ = some (.int .i64 (k : Int)) := K6.cell 0
                    have x1 : w6.cell? ⟨gx, 1, none⟩ = some (.int .i64 (t : Int)) := K6.cell 1
                    have x2 : w6.cell? ⟨gx, 2, none⟩ = some (.int .i64 la) := K6.cell 2
                    have x3 : w6.cell? ⟨gx, 3, none⟩ = some (.int .i64 lb) := K6.cell 3
                    have qx := K6.lt
                    have hbs : gl + 1 ≤ w6.heap.size := HI6.sz
                    clear HI6 K6 hb6
                    go_wp2_with (first | (at_builtin; refine wpList_app rfl (.tmp 102) (.tmp 104) _ rfl (gl + 1) 83 (.agg #[.int .i64 0, .int .i64 0, .int .i64 0, .int .i64 0]) 4 32 Try.underlying46 infoCr rfl (by omega) (by omega) _ _ _ rfl HI6a.out.ox w6.heap.size [.int .i64 (k : Int), .int .i64 (t : Int), .int .i64 la, .int .i64 lb] rfl rfl (news4 _ _ _ _ _ _) (one4 _ _ _ _) (by have := HNX.out; omega) (by simp; omega) ?_; intro ga cap1 w7 hg1 hown1 hgrow1 hor1; have HC7 : Has w7 gc _ _ := HI6a.out.c.same (hgrow1.block gc HI6a.out.c.lt (fun e => (HI6a.out.c.ne_own HI6a.out.ox (by decide)) e.symm)); have z1 : w7.cell? ⟨gc, 1, none⟩ = some (.slice X nx cx) := HC7.cell 1; have f1 := HC7.free 1; have q7 := HC7.lt) | fail)
                    have HI8 := Lib.hid (HI6a.out.crossed ⟨(k : Int), (t : Int), la, lb⟩ hown1 hgrow1)
                    have HJ8 := Lib.hid (HJ6a.out.crossed HI6a.out hgrow1 (.slice (some ⟨ga, 0, none⟩) (nx + 1) cap1))
                    have HR8 := Lib.hid (row_crossed HR6a.out HI6a.out hgrow1 (.slice (some ⟨ga, 0, none⟩) (nx + 1) cap1))
                    refine (swap65 gl t _ la lb _ HI8.out.g ht48 (by rw [List.getElem?_map, HLA.out]; rfl) (by rw [List.getElem?_map, HLB.out]; rfl)).mono ?_
                    rintro e w9 ⟨⟨v, rfl⟩, hg9, hk9, _⟩
                    have HI9 := Lib.hid (HI8.out.swapped (((((Mk.works ws k).letters (k : Int) mid x.word.data.toList j).crosses (k : Int) mid ns q).l.set t lb).set (t + 1) la) (by rw [List.map_set, List.map_set]; exact hg9) hk9)
                    have HJ9 := Lib.hid (HJ8.out.swapped HI8.out hk9)
                    have HR9 := Lib.hid (row_swapped HR8.out HI8.out hk9)
                    have HCE2 := Lib.hid (HCE.out.trans (Mk.cross_eq HMA.out HLA.out HLB.out))
                    clear HI8 HJ8 HR8 hg9 hk9 HI6a HJ6a HR6a hown1 hgrow1 hor1 HC7 z1 f1 q7 y1 x0 x1 x2 x3
                    go_wp2
                    go_roundw
                    case rel => exact ⟨q + 1, some ⟨ga, 0, none⟩, nx + 1, cap1, by omega, by go_num, Lib.hid (by rw [HCE2.out, if_neg (by omega)]; exact HI9.out), HJ9, HR9⟩
                    case measure => first | (simp [intOf]; done) | (simp [intOf]; omega)
                · obtain rfl : q = nn := by omega
                  go_wp2
                  go_roundw
                  case rel => exact ⟨j + 1, X, nx, cx, P, np, cp, by omega, by go_num, Lib.hid (by rw [HLE2.out, HLN.out]; exact HI.out), HJ⟩
                  case measure => first | (simp [intOf]; done) | (simp [intOf]; omega)
          · obtain rfl : j = x.word.size := by omega
            have k2 : wo.cell? ⟨gw, 2, none⟩ = some (.string x.word) := HJ.out.w.cell 2
            have q6 := HJ.out.w.lt
            go_wp2
            go_roundw
            case rel => exact ⟨k + 1, X, nx, cx, P, np, cp, by omega, by go_num, Lib.hid (by rw [HWK.out]; exact HI.out)⟩
            case measure => first | (simp [intOf]; done) | (simp [intOf]; omega)
    · obtain rfl : n = k := by omega
      have M2 := KK2.out.below HI.out.b hwc
      have y0 : wo.cell? ⟨gc, 0, none⟩ = some (.int .i64 (2 * p)) := HI.out.c.cell 0
      have y1 : wo.cell? ⟨gc, 1, none⟩ = some (.slice X nx cx) := HI.out.c.cell 1
      have y2 : wo.cell? ⟨gc, 2, none⟩ = some (.slice P np cp) := HI.out.c.cell 2
      have z0 : wo.cell? ⟨w.heap.size + 1, 0, none⟩ = some (.int .i64 0) := M2.cell 0
      have z1 : wo.cell? ⟨w.heap.size + 1, 1, none⟩ = some (.slice none 0 0) := M2.cell 1
      have z2 : wo.cell? ⟨w.heap.size + 1, 2, none⟩ = some (.slice none 0 0) := M2.cell 2
      have f0 := M2.free 0
      have f1 := M2.free 1
      have f2 := M2.free 2
      have qa := M2.lt
      have qb := HI.out.c.lt
      go_wp2
      have M3 := ((M2.set 0 (.int .i64 (2 * p))).set 1 (.slice X nx cx)).set 2 (.slice P np cp)
      have hB := ((But.set (w.heap.size + 1) wo 0 (.int .i64 (2 * p))).trans (But.set (w.heap.size + 1) _ 1 (.slice X nx cx))).trans (But.set (w.heap.size + 1) _ 2 (.slice P np cp))
      have hox := hB.own HI.out.ox (M2.ne_own HI.out.ox (by decide))
      have hop := hB.own HI.out.op (M2.ne_own HI.out.op (by decide))
      have hcx := own_caps hox
      have hcp := own_caps hop
      refine post_cell_tmp M3 rfl rfl rfl rfl Try.underlying49 (by kernel_rfl) ⟨X, nx, cx, P, np, cp, rfl, own_rdQ hox, own_rdQ hop, HI.out.nxs, HI.out.nps, hcx.1, hcx.2, hcp.1, hcp.2, ?_⟩
      exact (B1.trans (HI.out.b.mono (by omega))).trans (hB.below (by omega) (by omega))
end Go.Proofs.Ytdimfbmbomgiaaa
