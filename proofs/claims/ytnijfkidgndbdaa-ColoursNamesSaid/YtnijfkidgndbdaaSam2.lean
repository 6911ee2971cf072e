/-
  Contract of chapter 21: colours.Same.
-/
import Derived.Test.YtnijfkidgndbdaaSam
namespace Go.Proofs.Ytnijfkidgndbdaa
open Go.RowKit
theorem ix0 (A B : Option Addr) (n c m d : Nat) (W : World) : (Instr.index 63 (.agg #[.slice A n c, .slice B m d]) (.int .i64 0)).run Try.prog W = .ok (.slice A n c) W := by
  have z := Try.sizeOf26
  have a := Try.isAgg26
  unfold Instr.index
  simp [asIntOf, Sem.run_bind, run_underlying Try.underlying63, part, z, a, Result.andThen, go_sem]
theorem ix1 (A B : Option Addr) (n c m d : Nat) (W : World) : (Instr.index 63 (.agg #[.slice A n c, .slice B m d]) (.int .i64 1)).run Try.prog W = .ok (.slice B m d) W := by
  have z := Try.sizeOf26
  have a := Try.isAgg26
  unfold Instr.index
  simp [asIntOf, Sem.run_bind, run_underlying Try.underlying63, part, z, a, Result.andThen, go_sem]
set_option maxRecDepth 100000 in
set_option maxHeartbeats 4000000 in
theorem same29 (t : Int) (A B D E : Option Addr) (n c m d k e k2 e2 : Nat) (xs ps : List Q4) (ds es : List Int) (w : World) (hn : n ≤ 9223372036854775807) (hm : m ≤ 9223372036854775807) (hk : k ≤ 9223372036854775807) (hk2 : k2 ≤ 9223372036854775807) (hx : RdQ w w.heap.size A xs) (hp : RdQ w w.heap.size B ps) (hd : RdI w w.heap.size D ds) (he : RdI w w.heap.size E es)
    (hl : xs.length = n) (hl' : ps.length = m) (hlk : ds.length = k) (hle : es.length = k2) (ht0 : -9223372036854775808 ≤ t) :
    Calls Try.prog 29 #[vCloth t A n c B m d, .slice D k e, .slice E k2 e2] w fun e w' => e = .returned (.tuple #[.int .i64 (sameV t xs ps ds es), .int .i64 (sameE t xs ps ds es)]) ∧ Below w.heap.size w w' := by
  have C1 := Lib.hid (fun (W : World) (hb : Below w.heap.size w W) => check16 t A B D n c m d k e xs ps ds W hn hm hk (hx.up hb) (hp.up hb) (hd.up hb) hl hl' hlk ht0)
  have C2 := Lib.hid (fun (W : World) (hb : Below w.heap.size w W) => check16 t A B E n c m d k2 e2 xs ps es W hn hm hk2 (hx.up hb) (hp.up hb) (he.up hb) hl hl' hle ht0)
  have C3 := Lib.hid (fun (h1 : chkE t xs ps ds = 0) (h2 : chkE t xs ps es = 0) (pa pb : Nat) (W : World) (hb : Below w.heap.size w W) (ha : W.cell? ⟨pa, 0, none⟩ = some (.slice D k e)) (hbb : W.cell? ⟨pb, 0, none⟩ = some (.slice E k2 e2)) => index52 pa pb A D E n c k e k2 e2 xs ds es W ha hbb (hx.up hb) (hd.up hb) (he.up hb) hl (by have := (ckE_ok (chkE_ok h1).1).2.2.1; omega) hlk hle
    (fun x hxm => by
      obtain ⟨⟨⟨h3, h4⟩, _⟩, _⟩ := cross_ok (chkE_ok h1).1 x hxm
      have h5 := (chkE_ok h1).2.1
      have h6 := (chkE_ok h2).2.1
      rw [hlk] at h5; rw [hle] at h6
      omega))
  have HV : Hid (∀ r : Int, sameE t xs ps ds es = 0 → sameV t xs ps ds es = diffI (overL xs ds) (overL xs es) n) := fun _ h => by unfold sameV; rw [if_pos h, hl]
  clear hx hp hd he
  have KB : ∀ W : World, W = ((w.alloc (.cells #[.int .i64 t, .slice A n c, .slice B m d] 25)).alloc (.cells #[.slice D k e] 26)).alloc (.cells #[.slice E k2 e2] 26) → Has W w.heap.size 25 [.int .i64 t, .slice A n c, .slice B m d] ∧ Has W (w.heap.size + 1) 26 [.slice D k e] ∧ Has W (w.heap.size + 2) 26 [.slice E k2 e2] ∧ Below w.heap.size w W := by
    rintro W rfl
    refine ⟨((Has.new rfl).alloc _).alloc _, (Has.new2 rfl).alloc _, ?_, by go_grown⟩
    have := Has.new2 (w := w.alloc (.cells #[.int .i64 t, .slice A n c, .slice B m d] 25)) (o := .cells #[.slice D k e] 26) (arr := #[.slice E k2 e2]) (t := 26) (cs := [.slice E k2 e2]) rfl
    rw [World.size_alloc] at this
    exact this
  have HKB := Lib.hid KB; clear KB
  go_enter Try.func29, Try.ntmps29
  go_wp2
  obtain ⟨w0, hw0⟩ : ∃ w0, w0 = ((w.alloc (.cells #[.int .i64 t, .slice A n c, .slice B m d] 25)).alloc (.cells #[.slice D k e] 26)).alloc (.cells #[.slice E k2 e2] 26) := ⟨_, rfl⟩
  rw [← hw0]
  obtain ⟨z1, z2, z3, z4⟩ := HKB.out w0 hw0
  clear hw0 HKB
  go_loopw [14] (fun i wr => ∃ j : Nat, j ≤ 2 ∧ i = .int .i64 (j : Int) ∧ Hid (1 ≤ j → chkE t xs ps ds = 0) ∧ Hid (2 ≤ j → chkE t xs ps es = 0) ∧ Hid (Has wr w.heap.size 25 [.int .i64 t, .slice A n c, .slice B m d]) ∧ Hid (Has wr (w.heap.size + 1) 26 [.slice D k e]) ∧ Hid (Has wr (w.heap.size + 2) 26 [.slice E k2 e2]) ∧ Below w.heap.size w wr) (fun i _ => 2 - (intOf i).toNat)
  case atStart => exact ⟨0, by omega, rfl, Lib.hid (show 1 ≤ 0 → chkE t xs ps ds = 0 from fun h => absurd h (by omega)), Lib.hid (show 2 ≤ 0 → chkE t xs ps es = 0 from fun h => absurd h (by omega)), Lib.hid z1, Lib.hid z2, Lib.hid z3, z4⟩
  case round =>
    clear z1 z2 z3 z4
    obtain ⟨j, hj, rfl, E1, E2, Z1, Z2, Z3, hb⟩ := hrel
    obtain ⟨wo, rfl⟩ : ∃ wo : World, wo = wr := ⟨_, rfl⟩
    have a0 : wo.cell? ⟨w.heap.size, 0, none⟩ = some (.int .i64 t) := Z1.out.cell 0
    have a1 : wo.cell? ⟨w.heap.size, 1, none⟩ = some (.slice A n c) := Z1.out.cell 1
    have a2 : wo.cell? ⟨w.heap.size, 2, none⟩ = some (.slice B m d) := Z1.out.cell 2
    have b1 : wo.cell? ⟨w.heap.size + 1, 0, none⟩ = some (.slice D k e) := Z2.out.cell 0
    have b2 : wo.cell? ⟨w.heap.size + 2, 0, none⟩ = some (.slice E k2 e2) := Z3.out.cell 0
    have q := Z1.out.lt
    have X0 := fun W => ix0 D E k e k2 e2 W
    have X1 := fun W => ix1 D E k e k2 e2 W
    obtain rfl | rfl | rfl : j = 0 ∨ j = 1 ∨ j = 2 := by omega
    · by_cases hE : chkE t xs ps ds = 0
      · have CC := Lib.hid (C1.out wo hb)
        rw [hE] at CC
        have HE := Lib.hid hE; clear hE
        go_wp2_with fail
        refine CC.out.mono ?_
        rintro e' w4 ⟨rfl, hb4⟩
        have Z1' := Lib.hid (Z1.out.below hb4 Z1.out.lt)
        have Z2' := Lib.hid (Z2.out.below hb4 Z2.out.lt)
        have Z3' := Lib.hid (Z3.out.below hb4 Z3.out.lt)
        have B4 := bvia hb hb4
        clear hb4 CC
        go_wp2
        go_roundw
        case rel => exact ⟨1, by omega, by go_num, Lib.hid (show 1 ≤ 1 → chkE t xs ps ds = 0 from fun _ => HE.out), Lib.hid (show 2 ≤ 1 → chkE t xs ps es = 0 from fun h => absurd h (by omega)), Z1', Z2', Z3', B4⟩
        case measure => first | (simp [intOf]; done) | (simp [intOf]; omega)
      · have CC := Lib.hid (C1.out wo hb)
        have F1 : sameE t xs ps ds es = chkE t xs ps ds := by unfold sameE; rw [if_neg hE]
        have F2 : sameV t xs ps ds es = 0 := by unfold sameV; rw [F1, if_neg hE]
        have F1 := Lib.hid F1; have F2 := Lib.hid F2
        have hr : (chkE t xs ps ds != 0) = true := by simpa using hE
        clear hE
        generalize chkE t xs ps ds = r at *
        go_wp2_with fail
        refine CC.out.mono ?_
        rintro e' w4 ⟨rfl, hb4⟩
        have B4 := bvia hb hb4
        clear hb4 CC
        go_wp2
        go_ret2
        exact ⟨by rw [F1.out, F2.out]; rfl, B4⟩
    · have HD0 := Lib.hid (E1.out (Nat.le_refl _))
      by_cases hE : chkE t xs ps es = 0
      · have CC := Lib.hid (C2.out wo hb)
        rw [hE] at CC
        have HE := Lib.hid hE; clear hE
        go_wp2_with fail
        refine CC.out.mono ?_
        rintro e' w4 ⟨rfl, hb4⟩
        have Z1' := Lib.hid (Z1.out.below hb4 Z1.out.lt)
        have Z2' := Lib.hid (Z2.out.below hb4 Z2.out.lt)
        have Z3' := Lib.hid (Z3.out.below hb4 Z3.out.lt)
        have B4 := bvia hb hb4
        clear hb4 CC
        go_wp2
        go_roundw
        case rel => exact ⟨2, by omega, by go_num, Lib.hid (show 1 ≤ 2 → chkE t xs ps ds = 0 from fun _ => HD0.out), Lib.hid (show 2 ≤ 2 → chkE t xs ps es = 0 from fun _ => HE.out), Z1', Z2', Z3', B4⟩
        case measure => first | (simp [intOf]; done) | (simp [intOf]; omega)
      · have CC := Lib.hid (C2.out wo hb)
        have F1 : sameE t xs ps ds es = chkE t xs ps es := by unfold sameE; rw [if_pos HD0.out]
        have F2 : sameV t xs ps ds es = 0 := by unfold sameV; rw [F1, if_neg hE]
        have F1 := Lib.hid F1; have F2 := Lib.hid F2
        have hr : (chkE t xs ps es != 0) = true := by simpa using hE
        clear hE
        generalize chkE t xs ps es = r at *
        go_wp2_with fail
        refine CC.out.mono ?_
        rintro e' w4 ⟨rfl, hb4⟩
        have B4 := bvia hb hb4
        clear hb4 CC
        go_wp2
        go_ret2
        exact ⟨by rw [F1.out, F2.out]; rfl, B4⟩
    · have CC := Lib.hid (C3.out (E1.out (by omega)) (E2.out (by omega)) (w.heap.size + 1) (w.heap.size + 2) wo hb b1 b2)
      have F1 : sameE t xs ps ds es = 0 := by unfold sameE; rw [if_pos (E1.out (by omega)), E2.out (by omega)]
      have F2 := HV.out 0 F1
      have F1 := Lib.hid F1; have F2 := Lib.hid F2
      go_wp2_with fail
      refine CC.out.mono ?_
      rintro e' w4 ⟨rfl, hb4⟩
      have B4 := bvia hb hb4
      clear hb4 CC
      go_wp2
      go_ret2
      exact ⟨by rw [F1.out, F2.out]; rfl, B4⟩
end Go.Proofs.Ytnijfkidgndbdaa
