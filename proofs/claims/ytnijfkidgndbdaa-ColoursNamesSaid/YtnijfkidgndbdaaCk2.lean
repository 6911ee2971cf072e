/-
  Contracts of chapter 21: Check of both packages.
-/
import Derived.Test.YtnijfkidgndbdaaCol
namespace Go.Proofs.Ytnijfkidgndbdaa
open Go.RowKit
set_option maxRecDepth 100000 in
theorem check16 (t : Int) (A B D : Option Addr) (n c m d k e : Nat) (xs ps : List Q4) (ds : List Int) (w : World) (hn : n ≤ 9223372036854775807) (hm : m ≤ 9223372036854775807) (hk : k ≤ 9223372036854775807) (hx : RdQ w w.heap.size A xs) (hp : RdQ w w.heap.size B ps) (hd : RdI w w.heap.size D ds)
    (hl : xs.length = n) (hl' : ps.length = m) (hlk : ds.length = k) (ht0 : -9223372036854775808 ≤ t) :
    Calls Try.prog 16 #[vCloth t A n c B m d, .slice D k e] w fun e w' => e = .returned (.int .i64 (chkE t xs ps ds)) ∧ Below w.heap.size w w' := by
  have HX := Lib.hid hx; clear hx
  have HP := Lib.hid hp; clear hp
  have HD := Lib.hid hd; clear hd
  have C1 := Lib.hid (fun (W : World) (hb : Below w.heap.size w W) => check42 t A B n c m d xs ps W hn hm (HX.out.up hb) (HP.out.up hb) hl hl' ht0)
  have C2 := Lib.hid (fun (W : World) (hb : Below w.heap.size w W) => bad43 D k e t ds W hk (HD.out.up hb) hlk)
  have K0 : Has (w.alloc (.cells #[.int .i64 t, .slice A n c, .slice B m d] 25)) w.heap.size 25 [.int .i64 t, .slice A n c, .slice B m d] := Has.new rfl
  unfold chkE
  by_cases hE : ckE t xs ps = 0
  · rw [if_pos hE]
    rw [hE] at C1
    clear hE
    cases hb : (decide ((ds.length : Int) = t) && colOk ds) with
    | true =>
      have hr : (ds.length : Int) = t ∧ colOk ds = true := by simpa using hb
      rw [if_pos hr]
      rw [hb] at C2
      clear hr hb
      go_enter Try.func16, Try.ntmps16
      go_wp2_with fail
      refine (C1.out _ (by go_grown)).mono ?_
      rintro e w1 ⟨rfl, hb1⟩
      have B1 := bvia (show Below w.heap.size w _ by go_grown) hb1
      have h0 : w1.cell? ⟨w.heap.size, 0, none⟩ = some (.int .i64 t) := (K0.below hb1 K0.lt).cell 0
      have q0 := (K0.below hb1 K0.lt).lt
      clear K0 hb1
      go_wp2_with fail
      refine (C2.out _ B1).mono ?_
      rintro e w2 ⟨rfl, rfl⟩
      go_wp2
      go_ret
      exact ⟨rfl, B1⟩
    | false =>
      have hr : ¬ ((ds.length : Int) = t ∧ colOk ds = true) := by
        rintro ⟨h1, h2⟩; rw [h2, decide_eq_true h1] at hb; cases hb
      rw [if_neg hr]
      rw [hb] at C2
      clear hr hb
      go_enter Try.func16, Try.ntmps16
      go_wp2_with fail
      refine (C1.out _ (by go_grown)).mono ?_
      rintro e w1 ⟨rfl, hb1⟩
      have B1 := bvia (show Below w.heap.size w _ by go_grown) hb1
      have h0 : w1.cell? ⟨w.heap.size, 0, none⟩ = some (.int .i64 t) := (K0.below hb1 K0.lt).cell 0
      have q0 := (K0.below hb1 K0.lt).lt
      clear K0 hb1
      go_wp2_with fail
      refine (C2.out _ B1).mono ?_
      rintro e w2 ⟨rfl, rfl⟩
      go_wp2
      go_ret
      exact ⟨rfl, B1⟩
  · rw [if_neg hE]
    generalize ckE t xs ps = r at *
    have hr : (r != 0) = true := by simpa using hE
    clear hE
    go_enter Try.func16, Try.ntmps16
    go_wp2_with fail
    refine (C1.out _ (by go_grown)).mono ?_
    rintro e w1 ⟨rfl, hb1⟩
    have B1 := bvia (show Below w.heap.size w _ by go_grown) hb1
    clear K0 hb1
    go_wp2
    go_ret
    exact ⟨rfl, B1⟩
set_option maxRecDepth 100000 in
theorem check21 (t : Int) (A B D : Option Addr) (n c m d k e : Nat) (xs ps : List Q4) (ds : List Int) (w : World) (hn : n ≤ 9223372036854775807) (hm : m ≤ 9223372036854775807) (hk : k ≤ 9223372036854775807) (hx : RdQ w w.heap.size A xs) (hp : RdQ w w.heap.size B ps) (hd : RdI w w.heap.size D ds)
    (hl : xs.length = n) (hl' : ps.length = m) (hlk : ds.length = k) (ht0 : -9223372036854775808 ≤ t) :
    Calls Try.prog 17 #[vCloth t A n c B m d, .slice D k e] w fun e w' => e = .returned (.int .i64 (chkE t xs ps ds)) ∧ Below w.heap.size w w' := by
  have HX := Lib.hid hx; clear hx
  have HP := Lib.hid hp; clear hp
  have HD := Lib.hid hd; clear hd
  have C1 := Lib.hid (fun (W : World) (hb : Below w.heap.size w W) => check17 t A B n c m d xs ps W hn hm (HX.out.up hb) (HP.out.up hb) hl hl' ht0)
  have C2 := Lib.hid (fun (W : World) (hb : Below w.heap.size w W) => colour45 D k e ds W hk (HD.out.up hb) hlk)
  have K0 : Has (w.alloc (.cells #[.int .i64 t, .slice A n c, .slice B m d] 25)) w.heap.size 25 [.int .i64 t, .slice A n c, .slice B m d] := Has.new rfl
  unfold chkE
  by_cases hE : ckE t xs ps = 0
  · rw [if_pos hE]
    rw [hE] at C1
    clear hE
    by_cases ht : (k : Int) = t
    · have d0 : ((k : Int) != t) = false := by simpa using ht
      cases hb : colOk ds with
      | true =>
        rw [if_pos ⟨by rw [hlk]; exact ht, rfl⟩]
        rw [hb] at C2
        clear ht hb
        go_enter Try.func17, Try.ntmps17
        go_wp2_with fail
        refine (C1.out _ (by go_grown)).mono ?_
        rintro e w1 ⟨rfl, hb1⟩
        have B1 := bvia (show Below w.heap.size w _ by go_grown) hb1
        have h0 : w1.cell? ⟨w.heap.size, 0, none⟩ = some (.int .i64 t) := (K0.below hb1 K0.lt).cell 0
        have q0 := (K0.below hb1 K0.lt).lt
        clear K0 hb1
        go_wp2_with fail
        refine (C2.out _ B1).mono ?_
        rintro e w2 ⟨rfl, rfl⟩
        go_wp2
        go_ret
        exact ⟨rfl, B1⟩
      | false =>
        rw [if_neg (by rintro ⟨_, h⟩; cases h)]
        rw [hb] at C2
        clear ht hb
        go_enter Try.func17, Try.ntmps17
        go_wp2_with fail
        refine (C1.out _ (by go_grown)).mono ?_
        rintro e w1 ⟨rfl, hb1⟩
        have B1 := bvia (show Below w.heap.size w _ by go_grown) hb1
        have h0 : w1.cell? ⟨w.heap.size, 0, none⟩ = some (.int .i64 t) := (K0.below hb1 K0.lt).cell 0
        have q0 := (K0.below hb1 K0.lt).lt
        clear K0 hb1
        go_wp2_with fail
        refine (C2.out _ B1).mono ?_
        rintro e w2 ⟨rfl, rfl⟩
        go_wp2
        go_ret
        exact ⟨rfl, B1⟩
    · have d0 : ((k : Int) != t) = true := by simpa using ht
      rw [if_neg (by rintro ⟨h, _⟩; rw [hlk] at h; exact ht h)]
      clear ht
      go_enter Try.func17, Try.ntmps17
      go_wp2_with fail
      refine (C1.out _ (by go_grown)).mono ?_
      rintro e w1 ⟨rfl, hb1⟩
      have B1 := bvia (show Below w.heap.size w _ by go_grown) hb1
      have h0 : w1.cell? ⟨w.heap.size, 0, none⟩ = some (.int .i64 t) := (K0.below hb1 K0.lt).cell 0
      have q0 := (K0.below hb1 K0.lt).lt
      clear K0 hb1
      go_wp2
      go_ret
      exact ⟨rfl, B1⟩
  · rw [if_neg hE]
    generalize ckE t xs ps = r at *
    have hr : (r == 0) = false := by simpa using hE
    clear hE
    go_enter Try.func17, Try.ntmps17
    go_wp2_with fail
    refine (C1.out _ (by go_grown)).mono ?_
    rintro e w1 ⟨rfl, hb1⟩
    have B1 := bvia (show Below w.heap.size w _ by go_grown) hb1
    clear K0 hb1
    go_wp2
    go_ret
    exact ⟨rfl, B1⟩
end Go.Proofs.Ytnijfkidgndbdaa
