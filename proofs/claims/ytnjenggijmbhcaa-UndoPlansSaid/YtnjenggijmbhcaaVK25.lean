/-
  The queues of compile.rows in memory; contracts of front, of compile.step and of the closure that counts.
-/
import Derived.Test.YtnjenggijmbhcaaVK12
import Derived.Test.YtnjenggijmbhcaaVK24
import Derived.RegionTactic
import Derived.Deep.CutRange
import Derived.Deep.LoopGhost
namespace Go.Proofs.Ytnjenggijmbhcaa
open Go.RowKit
/-- a list of indices in memory, in blocks between g0 and Br -/
def RdQu (g0 Br : Nat) (w : World) (A : Option Addr) (L : List Nat) : Prop :=
  ∀ (k x : Nat), L[k]? = some x → ∃ b o, A = some ⟨b, o, none⟩ ∧ g0 < b ∧ b < Br ∧ w.cell? ⟨b, o + k, none⟩ = some (.int .i64 (x : Int))
/-- the blocks between are as they were -/
def KeepQ (g0 Br : Nat) (w w' : World) : Prop := ∀ r, g0 < r → r < Br → w'.heap[r]? = w.heap[r]?
theorem KeepQ.trans {g0 Br : Nat} {a b c : World} (h : KeepQ g0 Br a b) (k : KeepQ g0 Br b c) : KeepQ g0 Br a c := fun r h1 h2 => (k r h1 h2).trans (h r h1 h2)
theorem KeepQ.refl (g0 Br : Nat) (w : World) : KeepQ g0 Br w w := fun _ _ _ => rfl
theorem KeepQ.of_below {g0 Br B : Nat} {w w' : World} (h : Below B w w') (hB : Br ≤ B) : KeepQ g0 Br w w' := fun r _ h2 => h.block r (by omega)
theorem KeepQ.of_but {g0 Br g : Nat} {w w' : World} (h : But g w w') (hg : g ≤ g0 ∨ Br ≤ g) (hs : Br ≤ w.heap.size) : KeepQ g0 Br w w' := fun r h1 h2 => h.block r (by omega) (by intro e; injection e; omega)
theorem RdQu.keep {g0 Br : Nat} {w w' : World} {A : Option Addr} {L : List Nat} (h : RdQu g0 Br w A L) (k : KeepQ g0 Br w w') : RdQu g0 Br w' A L := fun j x hx => by
  obtain ⟨b, o, e, h1, h2, h3⟩ := h j x hx
  exact ⟨b, o, e, h1, h2, (World.cell?_of_block (k b h1 h2)).trans h3⟩
/-- the queues of what is not made lie at block g -/
structure QuH (g0 Br : Nat) (W : World) (g : Nat) (ws : List Wk) (D : Nat → Bool) (V : Nat → Value) : Prop where
  h : Has W g 136 ((List.range 24).map V)
  r : ∀ q, q < 24 → ∃ A c, V q = .slice A (que ws D q).length c ∧ (que ws D q).length ≤ c ∧ c ≤ 9223372036854775807 ∧ RdQu g0 Br W A (que ws D q)
theorem QuH.keep {g0 Br g : Nat} {W W' : World} {ws : List Wk} {D : Nat → Bool} {V : Nat → Value} (h : QuH g0 Br W g ws D V) (k : KeepQ g0 Br W W') (e : W'.heap[g]? = W.heap[g]?) : QuH g0 Br W' g ws D V :=
  ⟨h.h.same e, fun q hq => by obtain ⟨A, c, h1, h2, h3, h4⟩ := h.r q hq; exact ⟨A, c, h1, h2, h3, h4.keep k⟩⟩
theorem QuH.cell {g0 Br g : Nat} {W : World} {ws : List Wk} {D : Nat → Bool} {V : Nat → Value} (h : QuH g0 Br W g ws D V) {q : Nat} (hq : q < 24) : W.cell? ⟨g, q, none⟩ = some (V q) := (h.h.cell q).trans (by simp [hq])
def frtI (ws : List Wk) (D : Nat → Bool) (q : Nat) : Int := match frt ws D q with | some i => (i : Int) | none => -1
theorem frtI_nil {ws : List Wk} {D : Nat → Bool} {q : Nat} (h : que ws D q = []) : frtI ws D q = -1 := by unfold frtI frt; rw [h]
theorem frtI_nil2 {ws : List Wk} {D : Nat → Bool} {q : Nat} (h : que ws D (q + 1) = []) : frtI ws D q = -1 := by unfold frtI frt; rw [h]; cases que ws D q <;> rfl
theorem frtI_cons {ws : List Wk} {D : Nat → Bool} {q a b : Nat} {t t' : List Nat} (h : que ws D q = a :: t) (h' : que ws D (q + 1) = b :: t') : frtI ws D q = if a = b then (a : Int) else -1 := by
  unfold frtI frt
  rw [h, h']
  by_cases e : a = b
  · simp [e]
  · simp [e]
theorem cell_lt {w : World} {b i : Nat} {v : Value} (h : w.cell? ⟨b, i, none⟩ = some v) : b < w.heap.size := by
  rcases Nat.lt_or_ge b w.heap.size with k | k
  · exact k
  · have : w.heap[b]? = none := Array.getElem?_eq_none k
    simp [World.cell?, this] at h
set_option maxRecDepth 100000 in
set_option maxHeartbeats 2000000 in
theorem front113 (g0 Br g q : Nat) (ws : List Wk) (D : Nat → Bool) (V : Nat → Value) (w : World) (H : QuH g0 Br w g ws D V) (hq : q < 23) :
    Calls Try.prog 113 #[.pointer (some ⟨g, 0, none⟩), .int .i64 (q : Int)] w fun e w' => e = .returned (.int .i64 (frtI ws D q)) ∧ Below w.heap.size w w' := by
  have c0 := H.cell (q := q) (by omega)
  have c1 := H.cell (q := q + 1) (by omega)
  obtain ⟨A, c, h1, h2, h3, h4⟩ := H.r q (by omega)
  obtain ⟨A', c', k1, k2, k3, k4⟩ := H.r (q + 1) (by omega)
  rw [h1] at c0
  rw [k1] at c1
  have hlt := H.h.lt
  have q0 : (0 : Int) ≤ (q : Int) := by omega
  have q1 : (q : Int) < 24 := by omega
  have q2 : (q : Int) + 1 < 24 := by omega
  have q3 : (0 : Int) ≤ (q : Int) + 1 := by omega
  have q4 : ((q : Int) + 1).toNat = q + 1 := by omega
  have iq : IntKind.i64.wrap ((q : Int) + 1) = (q : Int) + 1 := IntWalk.i64_in _ (by omega)
  clear H h1 k1 hq
  have hxc := fun (x : Ext w) => x.cell
  cases hL0 : que ws D q with
  | nil =>
    have HE := Lib.hid (frtI_nil hL0)
    rw [hL0] at c0
    simp only [List.length_nil] at c0
    clear h2 h3 h4 k2 k3 k4 hL0
    generalize (que ws D (q + 1)).length = m at *
    go_enter Try.func113, Try.ntmps113
    go_upto_region 1 with (fail)
    refine wp_region_ext (by kernel_rfl) (by kernel_rfl) ?_
    repeat (go_big_quiet_step (fail))
    refine wpQuiet_nil ?_
    intro w2 hw'
    have hb2 := ext_below hw'
    clear hw' hxc c0 c1 hlt
    go_upto_region 2 with (fail)
    refine wp_region_ext (by kernel_rfl) (by kernel_rfl) ?_
    repeat (go_big_quiet_step (fail))
    refine wpQuiet_nil ?_
    intro w3 hw'
    have hb3 := ext_below hw'
    clear hw'
    go_wp2
    go_ret
    exact ⟨by rw [HE.out]; rfl, bvia hb2 hb3⟩
  | cons a t =>
    obtain ⟨b0, o0, rfl, _, _, x0⟩ := h4 0 a (by rw [hL0]; rfl)
    rw [Nat.add_zero] at x0
    have l0 := cell_lt x0
    obtain ⟨n, hn0⟩ : ∃ n, n = (que ws D q).length := ⟨_, rfl⟩
    have p0 : 0 < n := by rw [hn0, hL0]; simp
    have j0 : (0 : Int) < (n : Int) := by omega
    have g0 : decide (0 < n) = true := decide_eq_true p0
    have gi0 : decide ((0 : Int) < (n : Int)) = true := decide_eq_true j0
    rw [← hn0] at c0 
    cases hL1 : que ws D (q + 1) with
    | nil =>
      have HE := Lib.hid (frtI_nil2 hL1)
      rw [hL1] at c1
      simp only [List.length_nil] at c1
      clear h2 h3 h4 k2 k3 k4 hL0 hL1 hn0
      go_enter Try.func113, Try.ntmps113
      go_upto_region 1 with (fail)
      refine wp_region_ext (by kernel_rfl) (by kernel_rfl) ?_
      repeat (go_big_quiet_step (fail))
      refine wpQuiet_nil ?_
      intro w2 hw'
      have hb2 := ext_below hw'
      have y0 := (hb2.cell (p := ⟨b0, o0, none⟩) l0).trans x0
      have z0 := cell_lt y0
      clear hw' hxc c0 c1 hlt x0 l0
      have hxc := fun (x : Ext w2) => x.cell
      go_upto_region 2 with (fail)
      refine wp_region_ext (by kernel_rfl) (by kernel_rfl) ?_
      repeat (go_big_quiet_step (fail))
      refine wpQuiet_nil ?_
      intro w3 hw'
      have hb3 := ext_below hw'
      clear hw'
      go_wp2
      go_ret
      exact ⟨by rw [HE.out]; rfl, bvia hb2 hb3⟩
    | cons b t' =>
      obtain ⟨b1, o1, rfl, _, _, x1⟩ := k4 0 b (by rw [hL1]; rfl)
      rw [Nat.add_zero] at x1
      have l1 := cell_lt x1
      obtain ⟨m, hn1⟩ : ∃ n, n = (que ws D (q + 1)).length := ⟨_, rfl⟩
      have p1 : 0 < m := by rw [hn1, hL1]; simp
      have j1 : (0 : Int) < (m : Int) := by omega
      have g1 : decide (0 < m) = true := decide_eq_true p1
      have gi1 : decide ((0 : Int) < (m : Int)) = true := decide_eq_true j1
      rw [← hn1] at c1 
      have HE := Lib.hid (frtI_cons hL0 hL1)
      clear h2 h3 h4 k2 k3 k4 hL0 hL1 hn0 hn1
      by_cases hab : a = b
      · have ge : ((a : Int) == (b : Int)) = true := by rw [hab]; simp
        rw [if_pos hab] at HE
        clear hab
        go_enter Try.func113, Try.ntmps113
        go_upto_region 1 with (fail)
        refine wp_region_ext (by kernel_rfl) (by kernel_rfl) ?_
        repeat (go_big_quiet_step (fail))
        refine wpQuiet_nil ?_
        intro w2 hw'
        have hb2 := ext_below hw'
        have y0 := (hb2.cell (p := ⟨b0, o0, none⟩) l0).trans x0
        have y1 := (hb2.cell (p := ⟨b1, o1, none⟩) l1).trans x1
        have z0 := cell_lt y0
        have z1 := cell_lt y1
        clear hw' hxc c0 c1 hlt x0 l0 x1 l1
        have hxc := fun (x : Ext w2) => x.cell
        go_upto_region 2 with (fail)
        refine wp_region_ext (by kernel_rfl) (by kernel_rfl) ?_
        repeat (go_big_quiet_step (fail))
        refine wpQuiet_nil ?_
        intro w3 hw'
        have hb3 := ext_below hw'
        clear hw'
        have u0 := (hb3.cell (p := ⟨b0, o0, none⟩) z0).trans y0
        go_wp2
        go_ret
        exact ⟨by rw [HE.out]; rfl, bvia hb2 hb3⟩
      · have ge : ((a : Int) == (b : Int)) = false := beq_eq_false_iff_ne.2 (by omega)
        rw [if_neg hab] at HE
        clear hab
        go_enter Try.func113, Try.ntmps113
        go_upto_region 1 with (fail)
        refine wp_region_ext (by kernel_rfl) (by kernel_rfl) ?_
        repeat (go_big_quiet_step (fail))
        refine wpQuiet_nil ?_
        intro w2 hw'
        have hb2 := ext_below hw'
        have y0 := (hb2.cell (p := ⟨b0, o0, none⟩) l0).trans x0
        have y1 := (hb2.cell (p := ⟨b1, o1, none⟩) l1).trans x1
        have z0 := cell_lt y0
        have z1 := cell_lt y1
        clear hw' hxc c0 c1 hlt x0 l0 x1 l1
        have hxc := fun (x : Ext w2) => x.cell
        go_upto_region 2 with (fail)
        refine wp_region_ext (by kernel_rfl) (by kernel_rfl) ?_
        repeat (go_big_quiet_step (fail))
        refine wpQuiet_nil ?_
        intro w3 hw'
        have hb3 := ext_below hw'
        clear hw'
        go_wp2
        go_ret
        exact ⟨by rw [HE.out]; rfl, bvia hb2 hb3⟩
end Go.Proofs.Ytnjenggijmbhcaa
/-
  Contract of sweep, for any closure: given what holds behind the works that it was given.
-/
namespace Go.Proofs.Ytnjenggijmbhcaa
open Go.RowKit
theorem sliceI_one (A : Option Addr) (n c : Nat) (hnc : n + 1 ≤ c) : ∃ A' c', (∀ W, (Instr.slice 29 (.slice A (n + 1) c) (some (.int .i64 1)) none none).run Try.prog W = .ok (.slice A' n c') W) ∧ (0 < n → A' = A.map (fun x => x.add 1)) ∧ n ≤ c' ∧ c' ≤ c := by
  by_cases e : c - 1 = 0
  · refine ⟨A, 0, fun W => ?_, fun h => by omega, by omega, by omega⟩
    rw [run_slice_l (P := Try.prog) (w := W) _ _ _ _ (by kernel_rfl) .i64 1 (by omega) (by omega)]
    have hs : (sizeOf (Try.prog.elem 29)).run Try.prog W = .ok 1 W := by kernel_rfl
    rw [hs]
    simp [sliced, e]
    exact fun h => absurd (show c = 1 by omega) h
  · refine ⟨A.map (fun x => x.add 1), c - 1, fun W => ?_, fun _ => rfl, by omega, by omega⟩
    rw [run_slice_l (P := Try.prog) (w := W) _ _ _ _ (by kernel_rfl) .i64 1 (by omega) (by omega)]
    have hs : (sizeOf (Try.prog.elem 29)).run Try.prog W = .ok 1 W := by kernel_rfl
    rw [hs]
    simp [sliced]
    exact fun h => absurd h (by omega)
theorem RdQu.tail {g0 Br : Nat} {W : World} {A A' : Option Addr} {i : Nat} {t : List Nat} (h : RdQu g0 Br W A (i :: t)) (hA : 0 < t.length → A' = A.map (fun x => x.add 1)) : RdQu g0 Br W A' t := fun k x hx => by
  obtain ⟨b, o, rfl, h1, h2, h3⟩ := h (k + 1) x (by simpa using hx)
  have hl := (List.getElem?_eq_some_iff.1 hx).1
  rw [hA (by omega)]
  exact ⟨b, o + 1, by simp [Addr.add_lit], h1, h2, by rw [show o + 1 + k = o + (k + 1) by omega]; exact h3⟩
theorem map_set_range (V : Nat → Value) (n j : Nat) (u : Value) : ((List.range n).map V).set j u = (List.range n).map fun q => if q = j then u else V q := by
  apply List.ext_getElem?
  intro k
  rw [List.getElem?_set, List.getElem?_map, List.getElem?_map]
  by_cases hk : k < n
  · rw [List.getElem?_range hk]
    by_cases e : j = k
    · subst e; simp [hk]
    · have e' : ¬ k = j := fun h => e h.symm
      simp [e, e']
  · have hn : (List.range n)[k]? = none := List.getElem?_eq_none (by simp; omega)
    rw [hn]
    by_cases e : j = k
    · subst e; simp [hk]
    · simp [e]
theorem QuH.pop {g0 Br g p i : Nat} {W : World} {ws : List Wk} {D : Nat → Bool} {V : Nat → Value} (H : QuH g0 Br W g ws D V) (hg : g ≤ g0 ∨ Br ≤ g) (hs : Br ≤ W.heap.size) (hf : frt ws D p = some i) (hp : p < 23) :
    ∃ (A A' : Option Addr) (n n' c c' : Nat), V p = .slice A (n + 1) c ∧ V (p + 1) = .slice A' (n' + 1) c' ∧ n + 1 ≤ c ∧ n' + 1 ≤ c' ∧ c ≤ 9223372036854775807 ∧ c' ≤ 9223372036854775807 ∧ ∀ (E E' : Option Addr) (d d' : Nat), (0 < n → E = A.map (fun x => x.add 1)) → (0 < n' → E' = A'.map (fun x => x.add 1)) → n ≤ d → d ≤ c → n' ≤ d' → d' ≤ c' → ∀ W0 : World, Below W.heap.size W W0 →
      QuH g0 Br ((W0.setCell ⟨g, p, none⟩ (.slice E n d)).setCell ⟨g, p + 1, none⟩ (.slice E' n' d')) g ws (mkD D i) (fun q => if q = p + 1 then .slice E' n' d' else if q = p then .slice E n d else V q) := by
  obtain ⟨t, t', h1, h2⟩ := frt_cons hf
  obtain ⟨_, hw, _⟩ := frt_iff.1 hf
  obtain ⟨A, c, a1, a2, a3, a4⟩ := H.r p (by omega)
  obtain ⟨A', c', b1, b2, b3, b4⟩ := H.r (p + 1) (by omega)
  rw [h1] at a1 a2 a4
  rw [h2] at b1 b2 b4
  refine ⟨A, A', t.length, t'.length, c, c', a1, b1, a2, b2, a3, b3, fun E E' d d' e1 e2 d1 d2 d3 d4 W0 hb => ?_⟩
  have hW := H.h.below hb H.h.lt
  have hk : KeepQ g0 Br W ((W0.setCell ⟨g, p, none⟩ (.slice E t.length d)).setCell ⟨g, p + 1, none⟩ (.slice E' t'.length d')) := fun r r1 r2 => by
    have hne : r ≠ g := by omega
    rw [Below.heap_setCell _ _ _ _ hne, Below.heap_setCell _ _ _ _ hne]
    exact hb.block r (by omega)
  refine ⟨?_, fun q hq => ?_⟩
  · have := (hW.set p (.slice E t.length d)).set (p + 1) (.slice E' t'.length d')
    rw [map_set_range, map_set_range] at this
    exact this
  · by_cases q1 : q = p + 1
    · subst q1
      rw [if_pos rfl]
      rw [que_mk h2]
      exact ⟨E', d', rfl, d3, Nat.le_trans d4 b3, (b4.tail e2).keep hk⟩
    · rw [if_neg q1]
      by_cases q2 : q = p
      · subst q2
        rw [if_pos rfl, que_mk h1]
        exact ⟨E, d, rfl, d1, Nat.le_trans d2 a3, (a4.tail e1).keep hk⟩
      · rw [if_neg q2]
        have hfar : takes (wat ws i) q = false := by
          cases ht : takes (wat ws i) q with
          | false => rfl
          | true => have := (takes_iff _ _).1 ht; omega
        rw [que_mk_far hfar]
        obtain ⟨B, e, x1, x2, x3, x4⟩ := H.r q hq
        exact ⟨B, e, x1, x2, x3, x4.keep hk⟩
set_option maxRecDepth 100000 in
set_option maxHeartbeats 8000000 in
theorem sweep104 (I : List Nat → World → Prop) (fid : Nat) (caps : Array Value) (g0 Br g hd s : Nat) (ws : List Wk) (D : Nat → Bool) (V : Nat → Value) (acc0 : List Nat) (w : World)
    (eg : ∀ args w, (callFunc fid args).run Try.prog w = .ok (.enter fid args) w)
    (hg : g ≤ g0 ∨ Br ≤ g) (hBr : Br ≤ w.heap.size) (H : QuH g0 Br w g ws D V) (hs1 : 1 ≤ s) (hh : hd + s ≤ 24) (h0 : I acc0 w)
    (hmono : ∀ pre W W', I pre W → But g W W' → I pre W')
    (hcall : ∀ pre i W, i < ws.length → pre.length < acc0.length + ws.length → I pre W → Br ≤ W.heap.size → Calls Try.prog fid (#[.int .i64 (i : Int)] ++ caps) W fun e W' => e = .returned (.tuple #[]) ∧ I (pre ++ [i]) W' ∧ KeepQ g0 Br W W' ∧ W'.heap[g]? = W.heap[g]? ∧ W.heap.size ≤ W'.heap.size) :
    Calls Try.prog 104 #[.pointer (some ⟨g, 0, none⟩), .int .i64 (hd : Int), .int .i64 (s : Int), .func (.func fid) #[] caps] w fun e w' =>
      e = .returned (.tuple #[]) ∧ (∃ V', QuH g0 Br w' g ws (mkAll D (sweep ws hd (s - 1) D)) V') ∧ I (acc0 ++ sweep ws hd (s - 1) D) w' ∧ KeepQ g0 Br w w' ∧ w.heap.size ≤ w'.heap.size := by
  obtain ⟨m, rfl⟩ : ∃ m, s = m + 1 := ⟨s - 1, by omega⟩
  rw [Nat.add_sub_cancel]
  have HG := Lib.hid hg
  have HB := Lib.hid hBr
  have HI0 := Lib.hid h0
  have HQ0 := Lib.hid H
  have HM := Lib.hid hmono
  have HC := Lib.hid hcall
  have HH := Lib.hid hh
  have ihs : IntKind.i64.wrap ((hd : Int) + ((m + 1 : Nat) : Int)) = (hd : Int) + ((m + 1 : Nat) : Int) := IntWalk.i64_in _ (by omega)
  obtain ⟨sp, hsp⟩ : ∃ sp : Int, sp = ((m + 1 : Nat) : Int) := ⟨_, rfl⟩
  rw [← hsp] at ihs ⊢
  have HSP := Lib.hid hsp
  have hh0 : (0 : Int) ≤ (hd : Int) := by omega
  clear hg hBr h0 H hmono hcall hh hs1 hsp
  go_enter Try.func104, Try.ntmps104
  go_wp2
  go_loopg [8] (2 * und ws D + m) (fun k pv wr => ∃ (p : Nat) (D' : Nat → Bool) (V' : Nat → Value) (acc : List Nat), pv = .int .i64 (p : Int) ∧ hd ≤ p ∧ p ≤ hd + m ∧ k = 2 * und ws D' + (hd + m - p) ∧ Hid (QuH g0 Br wr g ws D' V') ∧ Hid (I (acc0 ++ acc) wr) ∧ Hid (D' = mkAll D acc) ∧ Hid (∀ q, hd ≤ q → q < p → frt ws D' q = none) ∧ acc.length + und ws D' ≤ ws.length ∧ Hid (acc ++ sweep ws hd m D' = sweep ws hd m D) ∧ Hid (w.heap.size ≤ wr.heap.size ∧ KeepQ g0 Br w wr))
  case atStart => exact ⟨hd, D, V, [], rfl, Nat.le_refl _, by omega, by omega, HQ0, by rw [List.append_nil]; exact HI0, Lib.hid rfl, Lib.hid (fun q h1 h2 => by omega), by have := und_le ws D; simp; omega, Lib.hid rfl, Lib.hid ⟨Nat.le_refl _, KeepQ.refl _ _ _⟩⟩
  case round =>
    clear HI0 HQ0
    obtain ⟨p, D', V', acc, rfl, hp1, hp2, hk, H, HI, HD, HN, hal, HS, HW⟩ := hrel
    have HAL := Lib.hid hal
    clear hal
    obtain ⟨wo, rfl⟩ : ∃ wo : World, wo = wr := ⟨_, rfl⟩
    have HK := Lib.hid hk
    clear hk
    have ip : IntKind.i64.wrap ((p : Int) + 1) = (p : Int) + 1 := IntWalk.i64_in _ (by have := HH.out; omega)
    by_cases hlt : p < hd + m
    · have jlt : (p : Int) + 1 < (hd : Int) + sp := by have := HSP.out; omega
      have hp23 : p < 23 := by have := HH.out; omega
      have CF := Lib.hid (front113 g0 Br g p ws D' V' wo H.out hp23)
      go_upto_region 2 with (fail)
      go_wp2_with fail
      refine CF.out.mono ?_
      rintro e w1 ⟨rfl, hb1⟩
      clear CF
      have hz1 : Br ≤ wo.heap.size := by have := HB.out; have := HW.out.1; omega
      have H1 := Lib.hid (H.out.keep (KeepQ.of_below hb1 hz1) (hb1.block g H.out.h.lt))
      have HI1 := Lib.hid (HM.out _ _ _ HI.out (But.of_below hb1))
      have HW1 : Hid (w.heap.size ≤ w1.heap.size ∧ KeepQ g0 Br w w1) := ⟨Nat.le_trans HW.out.1 hb1.size, HW.out.2.trans (KeepQ.of_below hb1 hz1)⟩
      clear hb1 hz1 H HI HW
      cases hf : frt ws D' p with
      | none =>
        rw [show frtI ws D' p = -1 by unfold frtI; rw [hf]]
        have HF := Lib.hid hf
        clear hf
        go_wp2
        go_roundg (2 * und ws D' + (hd + m - (p + 1)))
        case measure => have := HK.out; omega
        case rel => exact ⟨p + 1, D', V', acc, by rw [Int.natCast_add]; rfl, by omega, by omega, rfl, H1, HI1, HD, Lib.hid (fun q h1 h2 => by
          rcases Nat.lt_or_ge q p with c | c
          · exact HN.out q h1 c
          · rw [show q = p by omega]; exact HF.out), HAL.out, HS, HW1⟩
      | some i =>
        rw [show frtI ws D' p = (i : Int) by unfold frtI; rw [hf]]
        have HF := Lib.hid hf
        have i0 : ¬ (i : Int) < 0 := by omega
        have hil := (frt_lt hf).1
        have HF2 := (frt_lt hf).2
        clear hf
        go_wp2_with fail
        have HU := Lib.hid (und_mk hil HF2)
        refine (HC.out _ i _ hil (by have := HAL.out; have := HU.out; rw [List.length_append]; omega) HI1.out (by have := HB.out; have := HW1.out.1; omega)).mono ?_
        rintro e w2 ⟨rfl, hI2, hk2, he2, hz2⟩
        dsimp only
        have H2 := Lib.hid (H1.out.keep hk2 he2)
        have hz3 : Br ≤ w2.heap.size := by have := HB.out; have := HW1.out.1; omega
        have HW2 : Hid (w.heap.size ≤ w2.heap.size ∧ KeepQ g0 Br w w2) := ⟨Nat.le_trans HW1.out.1 hz2, HW1.out.2.trans hk2⟩
        have HI2 := Lib.hid hI2
        clear hI2 hk2 he2 hz2 HW1 HI1 H1
        obtain ⟨A, A', n, n', c, c', v1, v2, hn, hn', hc, hc', hpop⟩ := H2.out.pop HG.out hz3 HF.out hp23
        obtain ⟨E, d, hsl, hE, d1, d2⟩ := sliceI_one A n c hn
        obtain ⟨E', d', hsl', hE', d1', d2'⟩ := sliceI_one A' n' c' hn'
        have HP := Lib.hid (hpop E E' d d' hE hE' d1 d2 d1' d2' w2 (Below.refl _ _))
        have y0 : w2.cell? ⟨g, p, none⟩ = some (.slice A (n + 1) c) := (H2.out.cell (by omega)).trans (congrArg some v1)
        have y1 : w2.cell? ⟨g, p + 1, none⟩ = some (.slice A' (n' + 1) c') := (H2.out.cell (by omega)).trans (congrArg some v2)
        have f0 := H2.out.h.free p
        have f1 := H2.out.h.free (p + 1)
        have hgl := H2.out.h.lt
        clear hpop hE hE' d1 d2 d1' d2' v1 v2 hn hn' hc hc'
        have p0 : (0 : Int) ≤ (p : Int) := by omega
        have p1 : (p : Int) < 24 := by omega
        have p2 : (p : Int) + 1 < 24 := by omega
        have p3 : (0 : Int) ≤ (p : Int) + 1 := by omega
        have p4 : ((p : Int) + 1).toNat = p + 1 := by omega
        go_upto_region 6 with (fail)
        refine wp_region_noPanic ?_
        refine wp_region_B (fun b w' => True ∧ (b = false → w'.cell? ⟨g, p, none⟩ = some (.slice A (n + 1) c) ∧ w'.cell? ⟨g, p + 1, none⟩ = some (.slice A' (n' + 1) c'))) 20 (by kernel_rfl) ?_
        have hSS : (fun b w' => True ∧ (b = false → w'.cell? ⟨g, p, none⟩ = some (.slice A (n + 1) c) ∧ w'.cell? ⟨g, p + 1, none⟩ = some (.slice A' (n' + 1) c'))) false (w2.drew) := ⟨trivial, fun _ => ⟨y0, y1⟩⟩
        refine wpAnyB_take (i := 0) (oi := _) (v := ?vv1) (fun w' => True) rfl (by kernel_rfl) (by kernel_rfl) (by kernel_rfl) (by kernel_rfl) (by rfl) (fun _ h => h.1) (.inl fun _ h => h.1) (fun _ _ _ h => h) (.inl ⟨by rfl, ?hy1⟩) hSS ?_
        case hy1 =>
          intro w' hSw
          try dsimp only at hSw
          go_simp
          all_goals with_reducible rfl
        try simp only [Act.put, List.setIfInBounds_toArray]
        refine wpAnyB_take (i := 1) (oi := _) (v := ?vv2) (fun w' => True) rfl (by kernel_rfl) (by kernel_rfl) (by kernel_rfl) (by kernel_rfl) (by rfl) (fun _ h => h.1) (.inl fun _ h => h.1) (fun _ _ _ h => h) (.inl ⟨by rfl, ?hy2⟩) hSS ?_
        case hy2 =>
          intro w' hSw
          try dsimp only at hSw
          go_simp
          all_goals with_reducible rfl
        try simp only [Act.put]
        refine wpAnyB_take (i := 2) (oi := _) (v := ?vv3) (fun w' => True) rfl (by kernel_rfl) (by kernel_rfl) (by kernel_rfl) (by kernel_rfl) (by rfl) (fun _ h => h.1) (.inl fun _ h => h.1) (fun _ _ _ h => h) (.inl ⟨by rfl, ?hy3⟩) hSS ?_
        case hy3 =>
          intro w' hSw
          try dsimp only at hSw
          go_simp
          all_goals with_reducible rfl
        try simp only [Act.put]
        refine wpAnyB_take (i := 3) (oi := _) (v := ?vv4) (fun w' => True) rfl (by kernel_rfl) (by kernel_rfl) (by kernel_rfl) (by kernel_rfl) (by rfl) (fun _ h => h.1) (.inl fun _ h => h.1) (fun _ _ _ h => h) (.inl ⟨by rfl, ?hy4⟩) hSS ?_
        case hy4 =>
          intro w' hSw
          try dsimp only at hSw
          go_simp
          all_goals with_reducible rfl
        try simp only [Act.put]
        refine wpAnyB_take (i := 4) (oi := _) (v := ?vv5) (fun w' => True) rfl (by kernel_rfl) (by kernel_rfl) (by kernel_rfl) (by kernel_rfl) (by rfl) (fun _ h => h.1) (.inl fun _ h => h.1) (fun _ _ _ h => h) (.inl ⟨by rfl, ?hy5⟩) hSS ?_
        case hy5 =>
          intro w' hSw
          try dsimp only at hSw
          go_simp
          all_goals with_reducible rfl
        try simp only [Act.put]
        refine wpAnyB_take (i := 5) (oi := _) (v := ?vv6) (fun w' => True) rfl (by kernel_rfl) (by kernel_rfl) (by kernel_rfl) (by kernel_rfl) (by rfl) (fun _ h => h.1) (.inl fun _ h => h.1) (fun _ _ _ h => h) (.inl ⟨by rfl, ?hy6⟩) hSS ?_
        case hy6 =>
          intro w' hSw
          try dsimp only at hSw
          go_simp
          all_goals with_reducible rfl
        try simp only [Act.put]
        refine wpAnyB_take (i := 6) (oi := _) (v := ?vv7) (fun w' => True) rfl (by kernel_rfl) (by kernel_rfl) (by kernel_rfl) (by kernel_rfl) (by rfl) (fun _ h => h.1) (.inl fun _ h => h.1) (fun _ _ _ h => h) (.inl ⟨by rfl, ?hy7⟩) hSS ?_
        case hy7 =>
          intro w' hSw
          try dsimp only at hSw
          go_simp
          all_goals with_reducible rfl
        try simp only [Act.put]
        refine wpAnyB_take (i := 7) (oi := _) (v := ?vv8) (fun w' => True) rfl (by kernel_rfl) (by kernel_rfl) (by kernel_rfl) (by kernel_rfl) (by rfl) (fun _ h => h.1) (.inl fun _ h => h.1) (fun _ _ _ h => h) (.inl ⟨by rfl, ?hy8⟩) hSS ?_
        case hy8 =>
          intro w' hSw
          try dsimp only at hSw
          go_simp
          all_goals with_reducible rfl
        try simp only [Act.put]
        refine wpAnyB_take (i := 8) (oi := _) (v := ?vv9) (fun w' => True) rfl (by kernel_rfl) (by kernel_rfl) (by kernel_rfl) (by kernel_rfl) (by rfl) (fun _ h => h.1) (.inl fun _ h => h.1) (fun _ _ _ h => h) (.inl ⟨by rfl, ?hy9⟩) hSS ?_
        case hy9 =>
          intro w' hSw
          try dsimp only at hSw
          go_simp
          all_goals with_reducible rfl
        try simp only [Act.put]
        refine wpAnyB_take (i := 9) (oi := _) (v := ?vv10) (fun w' => True ∧ w'.cell? ⟨g, p, none⟩ = some (.slice A (n + 1) c) ∧ w'.cell? ⟨g, p + 1, none⟩ = some (.slice A' (n' + 1) c')) rfl (by kernel_rfl) (by kernel_rfl) (by kernel_rfl) (by kernel_rfl) (by rfl) (fun _ h => ⟨h.1, h.2 rfl⟩) (.inr (by kernel_rfl)) (fun _ _ _ h => h) (.inl ⟨by rfl, ?hy10⟩) hSS ?_
        case hy10 =>
          intro w' hSw
          try dsimp only at hSw
          go_simp
          all_goals with_reducible rfl
        try simp only [Act.put]
        refine wpAnyB_take (i := 10) (oi := _) (v := ?vv11) (fun w' => True) rfl (by kernel_rfl) (by kernel_rfl) (by kernel_rfl) (by kernel_rfl) (by rfl) (fun _ h => h.1) (.inl fun _ h => h.1) (fun _ _ _ h => h) (.inl ⟨by rfl, ?hy11⟩) hSS ?_
        case hy11 =>
          intro w' hSw
          try dsimp only at hSw
          go_simp
          all_goals with_reducible rfl
        try simp only [Act.put]
        refine wpAnyB_take (i := 11) (oi := _) (v := ?vv12) (fun w' => True) rfl (by kernel_rfl) (by kernel_rfl) (by kernel_rfl) (by kernel_rfl) (by rfl) (fun _ h => h.1) (.inl fun _ h => h.1) (fun _ _ _ h => h) (.inl ⟨by rfl, ?hy12⟩) hSS ?_
        case hy12 =>
          intro w' hSw
          try dsimp only at hSw
          go_simp
          all_goals with_reducible rfl
        try simp only [Act.put]
        refine wpAnyB_take (i := 12) (oi := _) (v := ?vv13) (fun w' => True) rfl (by kernel_rfl) (by kernel_rfl) (by kernel_rfl) (by kernel_rfl) (by rfl) (fun _ h => h.1) (.inl fun _ h => h.1) (fun _ _ _ h => h) (.inl ⟨by rfl, ?hy13⟩) hSS ?_
        case hy13 =>
          intro w' hSw
          try dsimp only at hSw
          go_simp
          all_goals with_reducible rfl
        try simp only [Act.put]
        refine wpAnyB_take (i := 13) (oi := _) (v := ?vv14) (fun w' => True) rfl (by kernel_rfl) (by kernel_rfl) (by kernel_rfl) (by kernel_rfl) (by rfl) (fun _ h => h.1) (.inl fun _ h => h.1) (fun _ _ _ h => h) (.inl ⟨by rfl, ?hy14⟩) hSS ?_
        case hy14 =>
          intro w' hSw
          try dsimp only at hSw
          go_simp
          all_goals with_reducible rfl
        try simp only [Act.put]
        refine wpAnyB_take (i := 14) (oi := _) (v := ?vv15) (fun w' => True) rfl (by kernel_rfl) (by kernel_rfl) (by kernel_rfl) (by kernel_rfl) (by rfl) (fun _ h => h.1) (.inl fun _ h => h.1) (fun _ _ _ h => h) (.inl ⟨by rfl, ?hy15⟩) hSS ?_
        case hy15 =>
          intro w' hSw
          try dsimp only at hSw
          go_simp
          all_goals with_reducible rfl
        try simp only [Act.put]
        refine wpAnyB_take (i := 15) (oi := _) (v := ?vv16) (fun w' => True) rfl (by kernel_rfl) (by kernel_rfl) (by kernel_rfl) (by kernel_rfl) (by rfl) (fun _ h => h.1) (.inl fun _ h => h.1) (fun _ _ _ h => h) (.inl ⟨by rfl, ?hy16⟩) hSS ?_
        case hy16 =>
          intro w' hSw
          try dsimp only at hSw
          go_simp
          all_goals with_reducible rfl
        try simp only [Act.put]
        refine wpAnyB_take (i := 16) (oi := _) (v := ?vv17) (fun w' => True ∧ w'.cell? ⟨g, p, none⟩ = some (.slice A (n + 1) c) ∧ w'.cell? ⟨g, p + 1, none⟩ = some (.slice A' (n' + 1) c')) rfl (by kernel_rfl) (by kernel_rfl) (by kernel_rfl) (by kernel_rfl) (by rfl) (fun _ h => ⟨h.1, h.2 rfl⟩) (.inr (by kernel_rfl)) (fun _ _ _ h => h) (.inl ⟨by rfl, ?hy17⟩) hSS ?_
        case hy17 =>
          intro w' hSw
          try dsimp only at hSw
          go_simp
          all_goals with_reducible rfl
        try simp only [Act.put]
        refine wpAnyB_take (i := 17) (oi := _) (v := ?vv18) (fun w' => True) rfl (by kernel_rfl) (by kernel_rfl) (by kernel_rfl) (by kernel_rfl) (by rfl) (fun _ h => h.1) (.inl fun _ h => h.1) (fun _ _ _ h => h) (.inl ⟨by rfl, ?hy18⟩) hSS ?_
        case hy18 =>
          intro w' hSw
          try dsimp only at hSw
          go_simp
          all_goals with_reducible rfl
        try simp only [Act.put]
        refine wpAnyB_take (i := 18) (oi := _) (v := ?vv19) (fun w' => True) rfl (by kernel_rfl) (by kernel_rfl) (by kernel_rfl) (by kernel_rfl) (by rfl) (fun _ h => h.1) (.inl fun _ h => h.1) (fun _ _ _ h => h) (.inl ⟨by rfl, ?hy19⟩) hSS ?_
        case hy19 =>
          intro w' hSw
          try dsimp only at hSw
          go_simp
          all_goals with_reducible rfl
        try simp only [Act.put]
        refine wpAnyB_take (i := 21) (oi := _) (v := ?vv20) (fun w' => True) rfl (by kernel_rfl) (by kernel_rfl) (by kernel_rfl) (by kernel_rfl) (by rfl) (fun _ h => h.1) (.inl fun _ h => h.1) (fun _ _ _ h => h) (.inl ⟨by rfl, ?hy20⟩) hSS ?_
        case hy20 =>
          intro w' hSw
          try dsimp only at hSw
          go_simp
          all_goals with_reducible rfl
        try simp only [Act.put]
        refine wpAnyB_one (i := 19) false rfl (by kernel_rfl) (by kernel_rfl) ?_
        intro KK hKK
        go_simp
        refine hKK.out _ _ ⟨trivial, fun _ => ⟨y0, y1⟩⟩ ?_
        clear hKK KK
        try simp only [Act.put, List.setIfInBounds_toArray, List.set_cons_zero, List.set_cons_succ]
        refine wpAnyB_one (i := 20) true rfl (by kernel_rfl) (by kernel_rfl) ?_
        intro KK hKK
        go_simp
        refine hKK.out _ _ ⟨trivial, fun hh => by cases hh⟩ ?_
        clear hKK KK
        try simp only [Act.put, List.setIfInBounds_toArray, List.set_cons_zero, List.set_cons_succ]
        refine wpAnyB_one (i := 22) true rfl (by kernel_rfl) (by kernel_rfl) ?_
        intro KK hKK
        go_simp
        refine hKK.out _ _ ⟨trivial, fun hh => by cases hh⟩ ?_
        clear hKK KK
        try simp only [Act.put, List.setIfInBounds_toArray, List.set_cons_zero, List.set_cons_succ]
        refine wpAnyB_one (i := 23) true rfl (by kernel_rfl) (by kernel_rfl) ?_
        intro KK hKK
        go_simp
        refine hKK.out _ _ ⟨trivial, fun hh => by cases hh⟩ ?_
        clear hKK KK
        try simp only [Act.put, List.setIfInBounds_toArray, List.set_cons_zero, List.set_cons_succ]
        refine wpAnyB_done (by kernel_rfl) (NoPanic.normal ?_) _
        have BG : But g w2 ((w2.setCell ⟨g, p, none⟩ (.slice E n d)).setCell ⟨g, p + 1, none⟩ (.slice E' n' d')).drew := ((But.set _ _ _ _).trans (But.set _ _ _ _)).drew
        have H3 : Hid (QuH g0 Br ((w2.setCell ⟨g, p, none⟩ (.slice E n d)).setCell ⟨g, p + 1, none⟩ (.slice E' n' d')).drew g ws (mkD D' i) (fun q => if q = p + 1 then .slice E' n' d' else if q = p then .slice E n d else V' q)) := QuH.keep HP.out (fun _ _ _ => rfl) rfl
        have HI3 := Lib.hid (HM.out _ _ _ HI2.out BG)
        have HW3 : Hid (w.heap.size ≤ ((w2.setCell ⟨g, p, none⟩ (.slice E n d)).setCell ⟨g, p + 1, none⟩ (.slice E' n' d')).drew.heap.size ∧ KeepQ g0 Br w ((w2.setCell ⟨g, p, none⟩ (.slice E n d)).setCell ⟨g, p + 1, none⟩ (.slice E' n' d')).drew) := ⟨Nat.le_trans HW2.out.1 BG.size, HW2.out.2.trans (KeepQ.of_but BG HG.out hz3)⟩
        generalize ((w2.setCell ⟨g, p, none⟩ (.slice E n d)).setCell ⟨g, p + 1, none⟩ (.slice E' n' d')).drew = w3 at *
        clear y0 y1 f0 f1 hgl p1 p2 p3 p4 hsl hsl' HP BG H2 HI2 HW2 hz3
        have im : IntKind.i64.wrap ((p : Int) - 1) = (p : Int) - 1 := IntWalk.i64_in _ (by omega)
        have HX := Lib.hid (nxt_at HN.out HF.out hlt)
        have HWI := Lib.hid (frt_iff.1 HF.out).2.1
        clear jlt ip ihs
        go_wp2
        all_goals
          go_roundg (2 * und ws (mkD D' i) + (hd + m - max hd (p - 1)))
          case measure => have h1 := HK.out; have h2 := nxt_und HX.out; omega
          case rel =>
            refine ⟨max hd (p - 1), mkD D' i, _, acc ++ [i], ?_, Nat.le_max_left _ _, by omega, rfl, H3, ?_, ?_, ?_, ?_, ?_, HW3⟩
            · congr 1; omega
            · show I _ _; rw [← List.append_assoc]; exact HI3.out
            · show mkD D' i = _; rw [mkAll_app, ← HD.out]; rfl
            · exact fun q h1 h2 => by rw [frt_mk_far HWI.out (by omega)]; exact HN.out q h1 (by omega)
            · have h1 := HAL.out; have h2 := HU.out; rw [List.length_append]; simp; omega
            · show _ = _; rw [List.append_assoc, List.singleton_append, ← sweep_some HX.out]; exact HS.out
    · have jlt : ¬ (p : Int) + 1 < (hd : Int) + sp := by have := HSP.out; omega
      have HX := Lib.hid (nxt_none.2 (fun q h1 h2 => HN.out q h1 (by omega)) : nxt ws D' hd m = none)
      have HE : Hid (acc = sweep ws hd m D) := by have := HS.out; rw [sweep_none HX.out, List.append_nil] at this; exact this
      go_wp2
      go_end0
      refine ⟨rfl, ⟨V', ?_⟩, ?_, HW.out.2, HW.out.1⟩
      · rw [← HE.out, ← HD.out]; exact H.out
      · rw [← HE.out]; exact HI.out
end Go.Proofs.Ytnjenggijmbhcaa
/-
  Contract of compile.best at int, for any closure that makes memory only.
-/
namespace Go.Proofs.Ytnjenggijmbhcaa
open Go.RowKit
/-- the first of k numbers at which f is greatest -/
def bstG (f : Nat → Nat) : Nat → Nat
  | 0 => 0
  | k + 1 => if f (bstG f k) < f k then k else bstG f k
theorem bstG_one (f : Nat → Nat) : bstG f 1 = 0 := by unfold bstG; split <;> rfl
theorem bstQ_eq (ws : List Wk) (m : Nat) (D : Nat → Bool) : ∀ k, bstQ ws m D k = bstG (much ws m D) k
  | 0 => rfl
  | k + 1 => by rw [bstQ, bstG, bstQ_eq ws m D k]
theorem bstG_lt (f : Nat → Nat) : ∀ k, bstG f (k + 1) ≤ k
  | 0 => by rw [bstG_one]; exact Nat.le_refl 0
  | k + 1 => by have := bstG_lt f k; rw [bstG]; split <;> omega
set_option maxRecDepth 100000 in
set_option maxHeartbeats 4000000 in
theorem best102 (fid : Nat) (caps : Array Value) (f : Nat → Nat) (A : Option Addr) (k c : Nat) (w : World) (hr : RdI w w.heap.size A ((List.range k).map fun x => ((x : Nat) : Int))) (hk1 : 1 ≤ k) (hk : k ≤ 1000) (hf : ∀ x, f x ≤ 1000)
    (eg : ∀ args w, (callFunc fid args).run Try.prog w = .ok (.enter fid args) w)
    (hcall : ∀ x W, x < k → Below w.heap.size w W → Calls Try.prog fid (#[.int .i64 (x : Int)] ++ caps) W fun e W' => e = .returned (.int .i64 (f x : Int)) ∧ Below W.heap.size W W') :
    Calls Try.prog 102 #[.slice A k c, .func (.func fid) #[] caps] w fun e w' => e = .returned (.int .i64 (bstG f k : Int)) ∧ Below w.heap.size w w' := by
  have hget : ∀ x, x < k → ((List.range k).map fun x => ((x : Nat) : Int))[x]? = some (x : Int) := fun x hx => by simp [hx]
  obtain ⟨b, o, rfl, _, _⟩ := hr 0 0 (hget 0 (by omega))
  have HC := Lib.hid (fun x (hx : x < k) (W : World) (hW : Below w.heap.size w W) => (by
    obtain ⟨b', o', e, h1, h2⟩ := hr x x (hget x hx)
    injection e with e; injection e with e1 e2
    subst e1 e2
    exact ⟨(hW.cell (p := ⟨b, o + x, none⟩) h1).trans h2, Nat.lt_of_lt_of_le h1 hW.size⟩ : W.cell? ⟨b, o + x, none⟩ = some (.int .i64 (x : Int)) ∧ b < W.heap.size))
  have HL := Lib.hid hcall
  have HF := Lib.hid hf
  clear hr hget hcall hf
  have c0 := (HC.out 0 (by omega) w (Below.refl _ _)).1
  have l0 := (HC.out 0 (by omega) w (Below.refl _ _)).2
  rw [Nat.add_zero] at c0
  have jk : (0 : Int) < (k : Int) := by omega
  have hxc := fun (x : Ext w) => x.cell
  go_enter Try.func102, Try.ntmps102
  go_upto_region 1 with (fail)
  refine wp_region_ext (by kernel_rfl) (by kernel_rfl) ?_
  repeat (go_big_quiet_step (fail))
  refine wpQuiet_nil ?_
  intro w1 hw'
  have hb1 := ext_below hw'
  clear hw' hxc c0 l0
  have HB1 := Lib.hid hb1
  clear hb1
  go_wp2
  go_loopw [5, 6, 15] (fun mv fv iv wr => ∃ (i mN fN : Nat), i ≤ k ∧ iv = .int .i64 (i : Int) ∧ mv = .int .i64 (mN : Int) ∧ fv = .int .i64 (fN : Int) ∧ Hid (mN = if i = 0 then 0 else f (bstG f i)) ∧ Hid (fN = bstG f i) ∧ Hid (Below w.heap.size w wr)) (fun _ _ iv _ => k - (intOf iv).toNat)
  case atStart => exact ⟨0, 0, 0, by omega, rfl, rfl, rfl, Lib.hid rfl, Lib.hid rfl, HB1⟩
  case round =>
    clear HB1
    obtain ⟨i, mN, fN, hi, rfl, rfl, rfl, HMN, HFN, HB⟩ := hrel
    obtain ⟨wo, rfl⟩ : ∃ wo : World, wo = wr := ⟨_, rfl⟩
    by_cases hlt : i < k
    · have ji : (i : Int) < (k : Int) := by omega
      have i0 : (0 : Int) ≤ (i : Int) := by omega
      have ii : IntKind.i64.wrap ((i : Int) + 1) = (i : Int) + 1 := IntWalk.i64_in _ (by omega)
      obtain ⟨ci, li⟩ := HC.out i hlt wo HB.out
      have HX := Lib.hid (HL.out i wo hlt HB.out)
      have HI1 : Hid (i + 1 ≤ k) := by show _ ≤ _; omega
      have HMS : Hid (k - (intOf (.int .i64 ((i : Int) + 1))).toNat < k - (intOf (.int .i64 (i : Int))).toNat) := by show _ < _; simp only [intOf]; omega
      have HS : Hid (bstG f (i + 1) = if f (bstG f i) < f i then i else bstG f i) := rfl
      clear hi hlt
      obtain ⟨fi, hfi⟩ : ∃ n, n = f i := ⟨_, rfl⟩
      rw [← hfi] at HX HS
      have HFI := Lib.hid hfi
      clear hfi
      go_upto_region 5 with (fail)
      go_wp2_with fail
      refine HX.out.mono ?_
      rintro e w2 ⟨rfl, hb2⟩
      have HB2 := Lib.hid (bvia HB.out hb2)
      clear HB hb2 ci li HX
      by_cases h0 : i = 0
      · subst h0
        have k0 : ((0 : Nat) : Int) = 0 := rfl
        have HE : Hid (bstG f (0 + 1) = 0) := bstG_one f
        go_wp2
        exact ⟨⟨0 + 1, fi, 0, HI1.out, by rw [Int.natCast_add]; rfl, rfl, rfl, by show _ = _; rw [if_neg (by omega), HE.out, HFI.out], HE.out.symm, HB2⟩, HMS.out⟩
      · have g0 : ((i : Int) == 0) = false := beq_eq_false_iff_ne.2 (by omega)
        rw [if_neg h0] at HMN
        by_cases hgt : mN < fi
        · have kg : decide ((mN : Int) < (fi : Int)) = true := decide_eq_true (by omega)
          have kg2 : decide (mN < fi) = true := decide_eq_true hgt
          have HE : Hid (bstG f (i + 1) = i) := by show _ = _; rw [HS.out, if_pos (by rw [← HMN.out]; exact hgt)]
          clear h0 hgt
          go_wp2
          exact ⟨⟨i + 1, fi, i, HI1.out, by rw [Int.natCast_add]; rfl, rfl, rfl, by show _ = _; rw [if_neg (by omega), HE.out, HFI.out], HE.out.symm, HB2⟩, HMS.out⟩
        · have kg : decide ((mN : Int) < (fi : Int)) = false := decide_eq_false (by omega)
          have kg2 : decide (mN < fi) = false := decide_eq_false hgt
          have HE : Hid (bstG f (i + 1) = bstG f i) := by show _ = _; rw [HS.out, if_neg (by rw [← HMN.out]; exact hgt)]
          clear h0 hgt
          go_wp2
          exact ⟨⟨i + 1, mN, fN, HI1.out, by rw [Int.natCast_add]; rfl, rfl, rfl, by show _ = _; rw [if_neg (by omega), HE.out]; exact HMN.out, by show _ = _; rw [HE.out]; exact HFN.out, HB2⟩, HMS.out⟩
    · obtain rfl : i = k := by omega
      have ji : ¬ (i : Int) < (i : Int) := by omega
      clear hlt
      go_wp2
      go_ret
      exact ⟨by rw [← HFN.out]; rfl, HB.out⟩
end Go.Proofs.Ytnjenggijmbhcaa
