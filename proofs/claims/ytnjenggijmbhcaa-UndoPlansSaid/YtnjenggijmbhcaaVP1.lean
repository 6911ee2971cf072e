/-
  Contracts of torchonref15: ready, next (as the least of the ready works in reach).
-/
import Derived.Test.YtnjenggijmbhcaaVK1
import Derived.Test.YtnjenggijmbhcaaVK23
import Derived.Test.YtnjenggijmbhcaaVK24
import Derived.Test.YtnjenggijmbhcaaVK5
namespace Go.Proofs.Ytnjenggijmbhcaa
open Go.RowKit
/-- what is done, by a list -/
def dOf (ds : List Bool) (k : Nat) : Bool := ds.getD k false
theorem dOf_get {ds : List Bool} {k : Nat} {y : Bool} (h : ds[k]? = some y) : dOf ds k = y := by unfold dOf; rw [List.getD_eq_getElem?_getD, h]; rfl
theorem dOf_set {ds : List Bool} {i : Nat} (h : i < ds.length) : dOf (ds.set i true) = mkD (dOf ds) i := funext fun k => by
  show (ds.set i true).getD k false = (ds.getD k false || k == i)
  rw [List.getD_eq_getElem?_getD, List.getD_eq_getElem?_getD]
  by_cases e : k = i
  · subst e; rw [List.getElem?_set_self h]; simp
  · rw [List.getElem?_set_ne (by omega)]
    have : (k == i) = false := by simpa using e
    rw [this, Bool.or_false]
theorem rdy_q {a : List Wk} {D : Nat → Bool} {i : Nat} : rdy a D i = true ↔ rdyQ a D i := by
  unfold rdy rdyQ
  rw [Bool.and_eq_true, rdyTo_iff]
  constructor
  · rintro ⟨h1, h2⟩; exact ⟨by simpa using h2, h1⟩
  · rintro ⟨h1, h2⟩; exact ⟨h2, by simpa using h1⟩
/-- of the first works: the one in reach that is ready and has the least place -/
def bestTo (ws : List Wk) (D : Nat → Bool) (h s : Int) : Nat → Option Nat
  | 0 => none
  | i + 1 => if heldB h s (wat ws i) = true ∧ (∀ j, bestTo ws D h s i = some j → wat ws i < wat ws j) ∧ rdy ws D i = true then some i else bestTo ws D h s i
def nI : Option Nat → Int | some j => (j : Int) | none => -1
theorem bestTo_some {ws : List Wk} {D : Nat → Bool} {h s : Int} : ∀ {n j}, bestTo ws D h s n = some j → j < n ∧ heldB h s (wat ws j) = true ∧ rdy ws D j = true ∧ ∀ i, i < n → heldB h s (wat ws i) = true → rdy ws D i = true → wat ws j ≤ wat ws i
  | 0, j, e => by cases e
  | n + 1, j, e => by
    unfold bestTo at e
    split at e
    · rename_i hc
      injection e with e
      subst e
      refine ⟨by omega, hc.1, hc.2.2, fun i hi h1 h2 => ?_⟩
      by_cases k : i = n
      · subst k; exact Int.le_refl _
      · cases hb : bestTo ws D h s n with
        | none =>
          exfalso
          have : ∀ m, m ≤ n → bestTo ws D h s m = none → ∀ i, i < m → heldB h s (wat ws i) = true → rdy ws D i = true → False := by
            intro m
            induction m with
            | zero => intro _ _ i hi; omega
            | succ m ih =>
              intro hm he i hi g1 g2
              have he2 := he
              unfold bestTo at he
              split at he
              · cases he
              · rename_i hno
                by_cases q : i = m
                · subst q
                  exact hno ⟨g1, (fun j hj => by rw [he] at hj; cases hj), g2⟩
                · exact ih (by omega) he i (by omega) g1 g2
          exact this n (Nat.le_refl _) hb i (by omega) h1 h2
        | some j =>
          obtain ⟨_, _, _, h6⟩ := bestTo_some hb
          have := h6 i (by omega) h1 h2
          have := hc.2.1 j hb
          omega
    · rename_i hno
      obtain ⟨h3, h4, h5, h6⟩ := bestTo_some e
      refine ⟨by omega, h4, h5, fun i hi h1 h2 => ?_⟩
      by_cases k : i = n
      · subst k
        refine Int.not_lt.1 fun hl => hno ⟨h1, fun j' hj' => by rw [e] at hj'; injection hj' with hj'; subst hj'; exact hl, h2⟩
      · exact h6 i (by omega) h1 h2
theorem bestTo_none {ws : List Wk} {D : Nat → Bool} {h s : Int} : ∀ {n}, bestTo ws D h s n = none → ∀ i, i < n → heldB h s (wat ws i) = true → rdy ws D i = true → False
  | 0, _, i, hi, _, _ => by omega
  | n + 1, e, i, hi, h1, h2 => by
    unfold bestTo at e
    split at e
    · cases e
    · rename_i hno
      by_cases k : i = n
      · subst k; exact hno ⟨h1, (fun j hj => by rw [e] at hj; cases hj), h2⟩
      · exact bestTo_none e i (by omega) h1 h2
theorem best_nxt {ws : List Wk} {D : Nat → Bool} {h s : Nat} (hs : 2 ≤ s) : bestTo ws D (h : Int) (s : Int) ws.length = nxt ws D h (s - 1) := by
  have hh : ∀ i, heldB (h : Int) (s : Int) (wat ws i) = true ↔ (h : Int) ≤ wat ws i ∧ wat ws i + 2 ≤ (h : Int) + s := fun i => by
    unfold heldB; rw [decide_eq_true_iff]; omega
  cases e : bestTo ws D (h : Int) (s : Int) ws.length with
  | some j =>
    obtain ⟨h1, h2, h3, h4⟩ := bestTo_some e
    obtain ⟨g1, g2⟩ := (hh j).1 h2
    obtain ⟨q, hq⟩ : ∃ q : Nat, wat ws j = q := ⟨(wat ws j).toNat, by omega⟩
    refine (nxt_at (p := q) (fun q' k1 k2 => ?_) (frt_iff.2 ⟨h1, hq, rdy_q.1 h3⟩) (by omega) (by omega)).symm
    cases hf : frt ws D q' with
    | none => rfl
    | some i =>
      exfalso
      obtain ⟨f1, f2, f3⟩ := frt_iff.1 hf
      have := h4 i f1 ((hh i).2 ⟨by omega, by omega⟩) (rdy_q.2 f3)
      omega
  | none =>
    refine (nxt_none.2 fun q k1 k2 => ?_).symm
    cases hf : frt ws D q with
    | none => rfl
    | some i =>
      exfalso
      obtain ⟨f1, f2, f3⟩ := frt_iff.1 hf
      exact bestTo_none e i f1 ((hh i).2 ⟨by omega, by omega⟩) (rdy_q.2 f3)
theorem best_neg {ws : List Wk} {D : Nat → Bool} {h s : Int} (hh : h < 0) : ∀ n, bestTo ws D h s n = none
  | 0 => rfl
  | n + 1 => by
    unfold bestTo
    rw [if_neg (fun k => by have := k.1; unfold heldB at this; rw [decide_eq_true_iff] at this; omega)]
    exact best_neg hh n
set_option maxRecDepth 100000 in
set_option maxHeartbeats 2000000 in
theorem ready15 (p : Int) (A M : Option Addr) (n c d i : Nat) (ws : List Wk) (ds : List Bool) (w : World) (hw : RdW w w.heap.size A ws) (hl : ws.length = n) (hm : RdB w w.heap.size M ds) (hml : ds.length = n) (hn : n ≤ 400) (hi : i < n) (hr : ∀ x ∈ ws, 0 ≤ x.at_ ∧ x.at_ ≤ 22) :
    Calls Try.prog 111 #[.agg #[.int .i64 p, .slice A n c], .slice M n d, .int .i64 (i : Int)] w fun e w' => e = .returned (.bool (rdy ws (dOf ds) i)) ∧ Below w.heap.size w w' := by
  have HW := Lib.hid hw
  have HL := Lib.hid hl
  have HM := Lib.hid hm
  have HML := Lib.hid hml
  obtain ⟨x, hx⟩ := get_of_lt (l := ws) (k := i) (by omega)
  obtain ⟨yi, hyi⟩ := get_of_lt (l := ds) (k := i) (by omega)
  have HX := Lib.hid hx
  have HYI := Lib.hid hyi
  have HXA := Lib.hid (hr x (mem_of_get hx))
  have HR := Lib.hid hr
  clear hw hl hm hml hx hyi hr
  go_enter Try.func111, Try.ntmps111
  go_wp2
  have K0 : Has (w.alloc (.cells #[.int .i64 p, .slice A n c] 24)) w.heap.size 24 [.int .i64 p, .slice A n c] := Has.new rfl
  have B0 : Below w.heap.size w (w.alloc (.cells #[.int .i64 p, .slice A n c] 24)) := by go_grown
  go_loopw [7] (fun iv wr => ∃ k : Nat, k ≤ i ∧ iv = .int .i64 (k : Int) ∧ Hid (∀ j, j < k → dOf ds j = false → touch (wat ws j) (wat ws i) = false) ∧ Hid (Has wr w.heap.size 24 [.int .i64 p, .slice A n c]) ∧ Hid (Below w.heap.size w wr)) (fun i' _ => i - (intOf i').toNat)
  case atStart => exact ⟨0, Nat.zero_le _, rfl, fun j hj => absurd hj (by omega), K0, B0⟩
  case round =>
    clear K0 B0
    obtain ⟨k, hk, rfl, HNo, HK, HB⟩ := hrel
    obtain ⟨wo, rfl⟩ : ∃ wo : World, wo = wr := ⟨_, rfl⟩
    obtain ⟨bx, ox, hA, hbx, x0, x1, x2⟩ := (HW.out.up HB.out) i x HX.out
    subst hA
    have s1 := HK.out.cell 1
    have s2 := HK.out.lt
    by_cases hlt : k < i
    · have jk : (k : Int) < (i : Int) := by omega
      have jn : (k : Int) < (n : Int) := by omega
      have jin : (i : Int) < (n : Int) := by omega
      obtain ⟨z, hz⟩ := get_of_lt (l := ws) (k := k) (by rw [HL.out]; omega)
      obtain ⟨yk, hyk⟩ := get_of_lt (l := ds) (k := k) (by rw [HML.out]; omega)
      obtain ⟨bm, om, hM, hbm, m0⟩ := (HM.out.up HB.out) k yk hyk
      subst hM
      have HZ := Lib.hid hz
      have HYK := Lib.hid hyk
      have HZA := Lib.hid (HR.out z (mem_of_get hz))
      obtain ⟨bz, oz, ez, _, z0, z1, z2⟩ := (HW.out.up HB.out) k z hz
      injection ez with ez; injection ez with e1 e2
      subst e1 e2
      clear hz hyk
      cases yk with
      | true =>
        go_wp2
        have hxc := fun (x : Ext wo) => x.cell
        refine wp_region_ext (by kernel_rfl) (by kernel_rfl) ?_
        repeat (go_big_quiet_step (fail))
        refine wpQuiet_nil ?_
        intro w9 hw'
        have hb9 := ext_below hw'; clear hw' hxc
        go_wp2
        go_roundw
        case rel =>
          have HN2 : Hid (∀ j, j < k + 1 → dOf ds j = false → touch (wat ws j) (wat ws i) = false) := fun j hj hd => by
            rcases Nat.lt_or_ge j k with h | h
            · exact HNo.out j h hd
            · obtain rfl : j = k := by omega
              rw [dOf_get HYK.out] at hd; cases hd
          exact ⟨k + 1, by omega, by go_num, HN2, HK.out.below hb9 HK.out.lt, HB.out.trans (hb9.mono HB.out.size)⟩
        case measure => first | (simp [intOf]; done) | (simp [intOf]; omega)
      | false =>
        cases ht : touch z.at_ x.at_ with
        | true =>
          have CT := Lib.hid (fun W => touch04 z.kind z.at_ x.kind x.at_ z.word x.word W (by have := HZA.out; omega) (by have := HZA.out; omega) (by have := HXA.out; omega) (by have := HXA.out; omega))
          rw [ht] at CT
          have HT := Lib.hid ht
          clear ht
          go_wp2
          have hxc := fun (x : Ext wo) => x.cell
          refine wp_region_ext (by kernel_rfl) (by kernel_rfl) ?_
          repeat (go_big_quiet_step ((go_at_call 20; exact ext_call (CT.out _))))
          refine wpQuiet_nil ?_
          intro w9 hw'
          have hb9 := ext_below hw'; clear hw' hxc
          go_wp2
          go_ret
          refine ⟨ret_bool ?_, HB.out.trans (hb9.mono HB.out.size)⟩
          symm
          cases hq : rdy ws (dOf ds) i with
          | false => rfl
          | true =>
            have := (rdy_q.1 hq).2 k hlt (dOf_get HYK.out)
            rw [wat_get HZ.out, wat_get HX.out, HT.out] at this
            cases this
        | false =>
          have CT := Lib.hid (fun W => touch04 z.kind z.at_ x.kind x.at_ z.word x.word W (by have := HZA.out; omega) (by have := HZA.out; omega) (by have := HXA.out; omega) (by have := HXA.out; omega))
          rw [ht] at CT
          have HT := Lib.hid ht
          clear ht
          go_wp2
          have hxc := fun (x : Ext wo) => x.cell
          refine wp_region_ext (by kernel_rfl) (by kernel_rfl) ?_
          repeat (go_big_quiet_step ((go_at_call 20; exact ext_call (CT.out _))))
          refine wpQuiet_nil ?_
          intro w9 hw'
          have hb9 := ext_below hw'; clear hw' hxc
          go_wp2
          go_roundw
          case rel =>
            have HN2 : Hid (∀ j, j < k + 1 → dOf ds j = false → touch (wat ws j) (wat ws i) = false) := fun j hj hd => by
              rcases Nat.lt_or_ge j k with h | h
              · exact HNo.out j h hd
              · obtain rfl : j = k := by omega
                rw [wat_get HZ.out, wat_get HX.out]; exact HT.out
            exact ⟨k + 1, by omega, by go_num, HN2, HK.out.below hb9 HK.out.lt, HB.out.trans (hb9.mono HB.out.size)⟩
          case measure => first | (simp [intOf]; done) | (simp [intOf]; omega)
    · obtain rfl : i = k := by omega
      have jk : ¬ (i : Int) < (i : Int) := by omega
      have jin : (i : Int) < (n : Int) := by omega
      obtain ⟨bm, om, hM, hbm, m0⟩ := (HM.out.up HB.out) i yi HYI.out
      subst hM
      go_wp2
      go_ret
      refine ⟨ret_bool ?_, HB.out⟩
      unfold rdy
      rw [(rdyTo_iff ws (dOf ds) i i).2 HNo.out, dOf_get HYI.out, Bool.true_and]
end Go.Proofs.Ytnjenggijmbhcaa
/-
  Contracts of torchonref15: next, much.
-/
namespace Go.Proofs.Ytnjenggijmbhcaa
open Go.RowKit
theorem nI_take {ws : List Wk} {D : Nat → Bool} {h s : Int} {i : Nat} (h1 : heldB h s (wat ws i) = true) (h2 : ∀ j, bestTo ws D h s i = some j → wat ws i < wat ws j) (h3 : rdy ws D i = true) : bestTo ws D h s (i + 1) = some i := if_pos ⟨h1, h2, h3⟩
theorem nI_leave {ws : List Wk} {D : Nat → Bool} {h s : Int} {i : Nat} (hn : ¬ (heldB h s (wat ws i) = true ∧ (∀ j, bestTo ws D h s i = some j → wat ws i < wat ws j) ∧ rdy ws D i = true)) : bestTo ws D h s (i + 1) = bestTo ws D h s i := if_neg hn
set_option maxRecDepth 100000 in
set_option maxHeartbeats 8000000 in
theorem next15 (p h s : Int) (A M : Option Addr) (n c d : Nat) (ws : List Wk) (ds : List Bool) (w : World) (hw : RdW w w.heap.size A ws) (hl : ws.length = n) (hm : RdB w w.heap.size M ds) (hml : ds.length = n) (hn : n ≤ 400) (hr : ∀ x ∈ ws, 0 ≤ x.at_ ∧ x.at_ ≤ 22) (hs : 0 ≤ s ∧ s ≤ 8) (hh : h ≤ 1000) :
    Calls Try.prog 91 #[.agg #[.int .i64 p, .slice A n c], .slice M n d, .int .i64 h, .int .i64 s] w fun e w' => e = .returned (.int .i64 (nI (bestTo ws (dOf ds) h s n))) ∧ Below w.heap.size w w' := by
  have HW := Lib.hid hw
  have HL := Lib.hid hl
  have HM := Lib.hid hm
  have HML := Lib.hid hml
  have HR := Lib.hid hr
  clear hw hl hm hml hr
  go_enter Try.func91, Try.ntmps91
  go_wp2
  have K0 : Has (w.alloc (.cells #[.int .i64 p, .slice A n c] 24)) w.heap.size 24 [.int .i64 p, .slice A n c] := Has.new rfl
  have B0 : Below w.heap.size w (w.alloc (.cells #[.int .i64 p, .slice A n c] 24)) := by go_grown
  go_loopw [9, 10] (fun bv iv wr => ∃ (i : Nat) (bi : Int), i ≤ n ∧ iv = .int .i64 (i : Int) ∧ bv = .int .i64 bi ∧ Hid (bi = nI (bestTo ws (dOf ds) h s i)) ∧ Hid (Has wr w.heap.size 24 [.int .i64 p, .slice A n c]) ∧ Hid (Below w.heap.size w wr)) (fun _ i' _ => n - (intOf i').toNat)
  case atStart => exact ⟨0, -1, Nat.zero_le _, rfl, rfl, rfl, K0, B0⟩
  case round =>
    clear K0 B0
    obtain ⟨i, bi, hi, rfl, rfl, HBV, HK, HB⟩ := hrel
    obtain ⟨wo, rfl⟩ : ∃ wo : World, wo = wr := ⟨_, rfl⟩
    have s0 := HK.out.cell 0
    have s1 := HK.out.cell 1
    have s2 := HK.out.lt
    by_cases hlt : i < n
    · have jn : (i : Int) < (n : Int) := by omega
      obtain ⟨x, hx⟩ := get_of_lt (l := ws) (k := i) (by rw [HL.out]; omega)
      obtain ⟨bx, ox, hA, hbx, x0, x1, x2⟩ := (HW.out.up HB.out) i x hx
      have HX := Lib.hid hx
      have HXA := Lib.hid (HR.out x (mem_of_get hx))
      have HXW := Lib.hid (wat_get hx)
      clear hx
      have CR : ∀ W : World, Below wo.heap.size wo W → Calls Try.prog 111 #[.agg #[.int .i64 p, .slice A n c], .slice M n d, .int .i64 (i : Int)] W fun e w' => e = .returned (.bool (rdy ws (dOf ds) i)) ∧ Below W.heap.size W w' := fun W hW => ready15 p A M n c d i ws ds W ((HW.out.up HB.out).up hW) HL.out ((HM.out.up HB.out).up hW) HML.out hn hlt HR.out
      have CR := Lib.hid CR
      have CH := fun (W : World) => held15 h s x.at_ W hs (by have := HXA.out; omega) hh
      subst hA
      cases hhe : heldB h s x.at_ with
      | false =>
        rw [hhe] at CH
        have CH := Lib.hid CH
        have HHE : Hid (bestTo ws (dOf ds) h s (i + 1) = bestTo ws (dOf ds) h s i) := nI_leave (fun k => by rw [HXW.out, hhe] at k; cases k.1)
        clear hhe
        go_wp2
        have hxc := fun (x : Ext wo) => x.cell
        refine wp_region_ext (by kernel_rfl) (by kernel_rfl) ?_
        repeat (go_big_quiet_step ((go_at_call 71; exact ext_call ((CH.out _).mono (fun e w' h => ⟨h.1, h.2 ▸ Below.refl _ _⟩)))))
        refine wpQuiet_nil ?_
        intro w9 hw'
        have hb9 := ext_below hw'; clear hw' hxc
        go_wp2
        go_roundw
        case rel => exact ⟨i + 1, _, by omega, by go_num, rfl, Lib.hid (by show _ = _; rw [HHE.out]; exact HBV.out), HK.out.below hb9 HK.out.lt, HB.out.trans (hb9.mono HB.out.size)⟩
        case measure => first | (simp [intOf]; done) | (simp [intOf]; omega)
      | true =>
        rw [hhe] at CH
        have CH := Lib.hid CH
        have HHE : Hid (heldB h s (wat ws i) = true) := by show _ = _; rw [HXW.out]; exact hhe
        clear hhe
        cases hb : bestTo ws (dOf ds) h s i with
        | none =>
          have hbv : bi = -1 := by have := HBV.out; rw [hb] at this; exact this
          subst hbv
          have HBB := Lib.hid hb
          clear hb HBV
          cases hrd : rdy ws (dOf ds) i with
          | true =>
            rw [hrd] at CR
            have HRD := Lib.hid hrd
            clear hrd
            go_wp2
            have hxc := fun (x : Ext wo) => x.cell
            refine wp_region_ext (by kernel_rfl) (by kernel_rfl) ?_
            repeat (go_big_quiet_step ((first | (go_at_call 71; exact ext_call ((CH.out _).mono (fun e w' h => ⟨h.1, h.2 ▸ Below.refl _ _⟩))) | (go_at_call 111; exact ext_call (CR.out _ (Ext.below _))))))
            refine wpQuiet_nil ?_
            intro w9 hw'
            have hb9 := ext_below hw'; clear hw' hxc
            go_wp2
            go_roundw
            case rel => exact ⟨i + 1, _, by omega, by go_num, rfl, Lib.hid (by show _ = _; rw [nI_take HHE.out (fun j hj => by rw [HBB.out] at hj; cases hj) HRD.out]; rfl), HK.out.below hb9 HK.out.lt, HB.out.trans (hb9.mono HB.out.size)⟩
            case measure => first | (simp [intOf]; done) | (simp [intOf]; omega)
          | false =>
            rw [hrd] at CR
            have HRD := Lib.hid hrd
            clear hrd
            go_wp2
            have hxc := fun (x : Ext wo) => x.cell
            refine wp_region_ext (by kernel_rfl) (by kernel_rfl) ?_
            repeat (go_big_quiet_step ((first | (go_at_call 71; exact ext_call ((CH.out _).mono (fun e w' h => ⟨h.1, h.2 ▸ Below.refl _ _⟩))) | (go_at_call 111; exact ext_call (CR.out _ (Ext.below _))))))
            refine wpQuiet_nil ?_
            intro w9 hw'
            have hb9 := ext_below hw'; clear hw' hxc
            go_wp2
            go_roundw
            case rel => exact ⟨i + 1, _, by omega, by go_num, rfl, Lib.hid (by show _ = _; rw [nI_leave (fun k => by rw [HRD.out] at k; cases k.2.2), HBB.out]; rfl), HK.out.below hb9 HK.out.lt, HB.out.trans (hb9.mono HB.out.size)⟩
            case measure => first | (simp [intOf]; done) | (simp [intOf]; omega)
        | some j =>
          have hbv : bi = (j : Int) := by have := HBV.out; rw [hb] at this; exact this
          subst hbv
          have HBB := Lib.hid hb
          have hji := (bestTo_some hb).1
          clear hb HBV
          have j0 : decide ((j : Int) < 0) = false := decide_eq_false (by omega)
          have jnn : (j : Int) < (n : Int) := by omega
          obtain ⟨z, hz⟩ := get_of_lt (l := ws) (k := j) (by rw [HL.out]; omega)
          obtain ⟨bz, oz, ez, _, z0, z1, z2⟩ := (HW.out.up HB.out) j z hz
          injection ez with ez; injection ez with e1 e2
          subst e1 e2
          have HZW := Lib.hid (wat_get hz)
          clear hz
          by_cases hlt2 : x.at_ < z.at_
          · have d1 : decide (x.at_ < z.at_) = true := decide_eq_true hlt2
            have HLT : Hid (∀ j', bestTo ws (dOf ds) h s i = some j' → wat ws i < wat ws j') := fun j' hj' => by rw [HBB.out] at hj'; injection hj' with hj'; subst hj'; rw [HXW.out, HZW.out]; exact hlt2
            cases hrd : rdy ws (dOf ds) i with
            | true =>
              rw [hrd] at CR
              have HRD := Lib.hid hrd
              clear hrd
              go_wp2
              have hxc := fun (x : Ext wo) => x.cell
              refine wp_region_ext (by kernel_rfl) (by kernel_rfl) ?_
              repeat (go_big_quiet_step ((first | (go_at_call 71; exact ext_call ((CH.out _).mono (fun e w' h => ⟨h.1, h.2 ▸ Below.refl _ _⟩))) | (go_at_call 111; exact ext_call (CR.out _ (Ext.below _))))))
              refine wpQuiet_nil ?_
              intro w9 hw'
              have hb9 := ext_below hw'; clear hw' hxc
              go_wp2
              go_roundw
              case rel => exact ⟨i + 1, _, by omega, by go_num, rfl, Lib.hid (by show _ = _; rw [nI_take HHE.out HLT.out HRD.out]; rfl), HK.out.below hb9 HK.out.lt, HB.out.trans (hb9.mono HB.out.size)⟩
              case measure => first | (simp [intOf]; done) | (simp [intOf]; omega)
            | false =>
              rw [hrd] at CR
              have HRD := Lib.hid hrd
              clear hrd
              go_wp2
              have hxc := fun (x : Ext wo) => x.cell
              refine wp_region_ext (by kernel_rfl) (by kernel_rfl) ?_
              repeat (go_big_quiet_step ((first | (go_at_call 71; exact ext_call ((CH.out _).mono (fun e w' h => ⟨h.1, h.2 ▸ Below.refl _ _⟩))) | (go_at_call 111; exact ext_call (CR.out _ (Ext.below _))))))
              refine wpQuiet_nil ?_
              intro w9 hw'
              have hb9 := ext_below hw'; clear hw' hxc
              go_wp2
              go_roundw
              case rel => exact ⟨i + 1, _, by omega, by go_num, rfl, Lib.hid (by show _ = _; rw [nI_leave (fun k => by rw [HRD.out] at k; cases k.2.2), HBB.out]; rfl), HK.out.below hb9 HK.out.lt, HB.out.trans (hb9.mono HB.out.size)⟩
              case measure => first | (simp [intOf]; done) | (simp [intOf]; omega)
          · have d1 : decide (x.at_ < z.at_) = false := decide_eq_false hlt2
            have HLV : Hid (bestTo ws (dOf ds) h s (i + 1) = bestTo ws (dOf ds) h s i) := nI_leave (fun k => by have := k.2.1 j HBB.out; rw [HXW.out, HZW.out] at this; exact hlt2 this)
            go_wp2
            have hxc := fun (x : Ext wo) => x.cell
            refine wp_region_ext (by kernel_rfl) (by kernel_rfl) ?_
            repeat (go_big_quiet_step ((go_at_call 71; exact ext_call ((CH.out _).mono (fun e w' h => ⟨h.1, h.2 ▸ Below.refl _ _⟩)))))
            refine wpQuiet_nil ?_
            intro w9 hw'
            have hb9 := ext_below hw'; clear hw' hxc
            go_wp2
            go_roundw
            case rel => exact ⟨i + 1, _, by omega, by go_num, rfl, Lib.hid (by show _ = _; rw [HLV.out, HBB.out]; rfl), HK.out.below hb9 HK.out.lt, HB.out.trans (hb9.mono HB.out.size)⟩
            case measure => first | (simp [intOf]; done) | (simp [intOf]; omega)
    · obtain rfl : n = i := by omega
      have jn : ¬ (n : Int) < (n : Int) := by omega
      have hbv := HBV.out
      subst hbv
      go_wp2
      go_ret
      exact ⟨rfl, HB.out⟩
end Go.Proofs.Ytnjenggijmbhcaa
