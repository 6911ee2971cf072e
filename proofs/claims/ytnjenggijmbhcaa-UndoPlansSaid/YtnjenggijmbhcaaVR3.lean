/-
  Contracts of torchonref05: ready, both.
-/
import Derived.Test.YtnjenggijmbhcaaVK1
import Derived.Test.YtnjenggijmbhcaaVK5
namespace Go.Proofs.Ytnjenggijmbhcaa
open Go.RowKit
theorem rdyTo_false {a : List Wk} {D : Nat → Bool} {i y k : Nat} (h : rdyTo a D i y = false) (hk : y ≤ k) : rdyTo a D i k = false := by
  induction k with
  | zero => obtain rfl : y = 0 := by omega
            exact h
  | succ k ih =>
    rcases Nat.lt_or_ge k y with e | e
    · obtain rfl : y = k + 1 := by omega
      exact h
    · unfold rdyTo; rw [ih e]; rfl
set_option maxRecDepth 100000 in
set_option maxHeartbeats 1000000 in
theorem ready05 (p : Int) (A : Option Addr) (n c g d i : Nat) (D : Nat → Bool) (ws : List Wk) (w : World) (hw : RdW w w.heap.size A ws) (hl : ws.length = n)
    (hg : g < w.heap.size) (hD : ∀ k, k < n → w.cell? ⟨g, k, none⟩ = some (.bool (D k))) (hi : i < n) (hn : n ≤ 400) (hr : ∀ x ∈ ws, 0 ≤ x.at_ ∧ x.at_ ≤ 22) :
    Calls Try.prog 68 #[.agg #[.int .i64 p, .slice A n c], .slice (some ⟨g, 0, none⟩) n d, .int .i64 (i : Int)] w fun e w' => e = .returned (.bool (rdy ws D i)) ∧ Below w.heap.size w w' := by
  have HW := Lib.hid hw; clear hw
  have HL := Lib.hid hl; clear hl
  have HR := Lib.hid hr; clear hr
  have HD := Lib.hid hD; clear hD
  obtain ⟨z, hz⟩ := get_of_lt (l := ws) (k := i) (by rw [HL.out]; exact hi)
  obtain ⟨ba, o, rfl, hb, e1, e2, e3⟩ := HW.out _ z hz
  obtain ⟨hz0, hz1⟩ := HR.out z (mem_of_get hz)
  have HZ := Lib.hid hz; clear hz
  go_enter Try.func68, Try.ntmps68
  go_wp2
  go_loopw [7] (fun q wr => ∃ y : Nat, y ≤ i ∧ q = .int .i64 (y : Int) ∧ rdyTo ws D i y = true ∧ Below w.heap.size w wr ∧ wr.cell? ⟨w.heap.size, 1, none⟩ = some (.slice (some ⟨ba, o, none⟩) n c) ∧ w.heap.size < wr.heap.size) (fun q _ => i - (intOf q).toNat)
  case atStart => exact ⟨0, Nat.zero_le _, rfl, rfl, by go_grown, by go_simp, by simp⟩
  case round =>
    obtain ⟨y, hy, rfl, hT, hW, d0, hzz⟩ := hrel
    obtain ⟨wo, rfl⟩ : ∃ wo : World, wo = wr := ⟨_, rfl⟩
    have k4 : wo.cell? ⟨ba, o + i * 3, none⟩ = some (.int .i64 z.kind) := by rw [hW.cell hb]; exact e1
    have k5 : wo.cell? ⟨ba, o + i * 3 + 1, none⟩ = some (.int .i64 z.at_) := by rw [hW.cell hb]; exact e2
    have k6 : wo.cell? ⟨ba, o + i * 3 + 2, none⟩ = some (.string z.word) := by rw [hW.cell hb]; exact e3
    have q2 : ba < wo.heap.size := by have := hW.size; omega
    have q3 : g < wo.heap.size := by have := hW.size; omega
    have HT := Lib.hid hT; clear hT
    by_cases hlt : y < i
    · obtain ⟨x, hx⟩ := get_of_lt (l := ws) (k := y) (by rw [HL.out]; omega)
      obtain ⟨ba2, o2, hA2, hb2, c1, c2, c3⟩ := HW.out _ x hx
      injection hA2 with hA2; injection hA2 with hA2 hA3; subst hA2; subst hA3
      obtain ⟨hx0, hx1⟩ := HR.out x (mem_of_get hx)
      have HS : Hid (rdyTo ws D i (y + 1) = (D y || !touch x.at_ z.at_)) := by
        show (rdyTo ws D i y && (D y || !touch (wat ws y) (wat ws i))) = _
        rw [HT.out, wat_get hx, wat_get HZ.out, Bool.true_and]
      have k0 : wo.cell? ⟨g, y, none⟩ = some (.bool (D y)) := by rw [hW.cell hg]; exact HD.out y (by omega)
      have k1 : wo.cell? ⟨ba, o + y * 3, none⟩ = some (.int .i64 x.kind) := by rw [hW.cell hb]; exact c1
      have k2 : wo.cell? ⟨ba, o + y * 3 + 1, none⟩ = some (.int .i64 x.at_) := by rw [hW.cell hb]; exact c2
      have k3 : wo.cell? ⟨ba, o + y * 3 + 2, none⟩ = some (.string x.word) := by rw [hW.cell hb]; exact c3
      clear hx e1 e2 e3 c1 c2 c3
      cases hd : D y with
      | true =>
        rw [hd] at k0 HS
        clear hd
        go_wp2
        have hxc := fun (x : Ext wo) => x.cell
        refine wp_region_ext (by kernel_rfl) (by kernel_rfl) ?_
        repeat (go_big_quiet_step (fail))
        refine wpQuiet_nil ?_
        intro _ hw'
        obtain ⟨⟨w2, hb2'⟩, rfl⟩ := hw'
        clear hxc
        go_wp2
        go_roundw
        case rel => exact ⟨y + 1, by omega, by go_num, by rw [HS.out]; rfl, bvia hW hb2', (hb2'.cell hzz).trans d0, by have := hb2'.size; omega⟩
        case measure => first | (simp [intOf]; done) | (simp [intOf]; omega)
      | false =>
        rw [hd] at k0 HS
        clear hd
        cases ht : touch x.at_ z.at_ with
        | true =>
          rw [ht] at HS
          have HT2 := Lib.hid ht; clear ht
          have HF : Hid (rdy ws D i = false) := by
            show (rdyTo ws D i i && !D i) = false
            rw [rdyTo_false (y := y + 1) (by rw [HS.out]; rfl) (by omega)]; rfl
          go_wp2
          have hxc := fun (x : Ext wo) => x.cell
          refine wp_region_ext (by kernel_rfl) (by kernel_rfl) ?_
          repeat (go_big_quiet_step ((go_at_call 20; exact ext_call (touch04 _ _ _ _ _ _ _ (by omega) (by omega) (by omega) (by omega)))))
          refine wpQuiet_nil ?_
          intro _ hw'
          obtain ⟨⟨w2, hb2'⟩, rfl⟩ := hw'
          clear hxc
          rw [HT2.out]
          go_wp2
          go_ret
          exact ⟨ret_bool HF.out.symm, bvia hW hb2'⟩
        | false =>
          rw [ht] at HS
          have HT2 := Lib.hid ht; clear ht
          go_wp2
          have hxc := fun (x : Ext wo) => x.cell
          refine wp_region_ext (by kernel_rfl) (by kernel_rfl) ?_
          repeat (go_big_quiet_step ((go_at_call 20; exact ext_call (touch04 _ _ _ _ _ _ _ (by omega) (by omega) (by omega) (by omega)))))
          refine wpQuiet_nil ?_
          intro _ hw'
          obtain ⟨⟨w2, hb2'⟩, rfl⟩ := hw'
          clear hxc
          rw [HT2.out]
          go_wp2
          go_roundw
          case rel => exact ⟨y + 1, by omega, by go_num, by rw [HS.out]; rfl, bvia hW hb2', (hb2'.cell hzz).trans d0, by have := hb2'.size; omega⟩
          case measure => first | (simp [intOf]; done) | (simp [intOf]; omega)
    · obtain rfl : y = i := by omega
      have k0 : wo.cell? ⟨g, y, none⟩ = some (.bool (D y)) := by rw [hW.cell hg]; exact HD.out y (by omega)
      have HF : Hid (rdy ws D y = !D y) := by
        show (rdyTo ws D y y && !D y) = _
        rw [HT.out, Bool.true_and]
      go_wp2
      go_ret
      exact ⟨ret_bool HF.out.symm, hW⟩
set_option maxRecDepth 100000 in
theorem both05 (p q : Int) (A B : Option Addr) (n m c d : Nat) (us vs : List Wk) (w : World) (hn : n ≤ 9223372036854775807) (hm : m ≤ 9223372036854775807) (hu : RdW w w.heap.size A us) (hv : RdW w w.heap.size B vs) (hl : us.length = n) (hl' : vs.length = m)
    (hs : ∀ x ∈ us, x.word.size ≤ 9223372036854775807) (hs' : ∀ x ∈ vs, x.word.size ≤ 9223372036854775807) (h0 : schk p us = 0) (h1 : schk q vs = 0) :
    Calls Try.prog 45 #[.agg #[.int .i64 p, .slice A n c], .agg #[.int .i64 q, .slice B m d]] w fun e w' => e = .returned (.int .i64 0) ∧ Below w.heap.size w w' := by
  have HU := Lib.hid hu; clear hu
  have HV := Lib.hid hv; clear hv
  have H0 := Lib.hid h0; clear h0
  have H1 := Lib.hid h1; clear h1
  have K : Has ((w.alloc (.cells #[.int .i64 p, .slice A n c] 24)).alloc (.cells #[.int .i64 q, .slice B m d] 24)) (w.heap.size + 1) 24 [.int .i64 q, .slice B m d] := by
    have := Has.new (w := w.alloc (.cells #[.int .i64 p, .slice A n c] 24)) (arr := #[.int .i64 q, .slice B m d]) (t := 24) (cs := [.int .i64 q, .slice B m d]) rfl
    simpa using this
  go_enter Try.func45, Try.ntmps45
  go_wp2_with fail
  refine (check04 _ _ _ _ _ _ hn (HU.out.up (by go_grown)) hl hs).mono ?_
  rintro e w1 ⟨rfl, hb1⟩
  rw [H0.out]
  have K1 := K.below hb1 K.lt
  have x0 : w1.cell? ⟨w.heap.size + 1, 0, none⟩ = some (.int .i64 q) := K1.cell 0
  have x1 : w1.cell? ⟨w.heap.size + 1, 1, none⟩ = some (.slice B m d) := K1.cell 1
  have b1 : Below w.heap.size w w1 := bvia (by go_grown) hb1
  clear K
  go_wp2_with fail
  refine (check04 _ _ _ _ _ _ hm (HV.out.up b1) hl' hs').mono ?_
  rintro e w2 ⟨rfl, hb2⟩
  rw [H1.out]
  go_wp2
  go_ret
  exact ⟨rfl, bvia b1 hb2⟩
end Go.Proofs.Ytnjenggijmbhcaa
