/-
  Contracts of chapter 21 for parted: Shows and Share as rows of the call's own.
-/
import Derived.Test.YtnijfkidgndbdaaPtp
namespace Go.Proofs.Ytnijfkidgndbdaa
open Go.RowKit
set_option maxRecDepth 100000 in
set_option maxHeartbeats 1000000 in
theorem shows32o (Tn i : Nat) (A B : Option Addr) (n c m d : Nat) (xs ps : List Q4) (w : World) (hn : n ≤ 9223372036854775807) (hm : m ≤ 9223372036854775807) (hx : RdQ w w.heap.size A xs) (hp : RdQ w w.heap.size B ps)
    (hl : xs.length = n) (hl' : ps.length = m) (hE : ckE (Tn : Int) xs ps = 0) (hi : i < Tn) :
    Calls Try.prog 32 #[vCloth (Tn : Int) A n c B m d, .int .i64 (i : Int)] w (RetOE (showsTo xs (i : Int) n) 0 w) := by
  have C1 := Lib.hid (fun (W : World) (hb : Below w.heap.size w W) => check42 (Tn : Int) A B n c m d xs ps W hn hm (hx.up hb) (hp.up hb) hl hl' (by omega))
  have K0 : Has (w.alloc (.cells #[.int .i64 (Tn : Int), .slice A n c, .slice B m d] 25)) w.heap.size 25 [.int .i64 (Tn : Int), .slice A n c, .slice B m d] := Has.new rfl
  have hE0 := hE
  rw [hE] at C1
  have d0 : decide ((i : Int) < 0) = false := decide_eq_false (by omega)
  have d1 : decide ((Tn : Int) ≤ (i : Int)) = false := decide_eq_false (by omega)
  have hiT' : (i : Int) < (Tn : Int) := by omega
  have hi0 : (0 : Int) ≤ (i : Int) := by omega
  have C2 := Lib.hid (fun (W : World) (hb : Below w.heap.size w W) => shows54 Tn A B n c m d xs ps W (hx.up hb) hl hE0)
  clear hE hE0 hx hp
  go_enter Try.func32, Try.ntmps32
  go_wp2_with fail
  refine (C1.out _ (by go_grown)).mono ?_
  rintro e w1 ⟨rfl, hb1⟩
  have B1 := bvia (show Below w.heap.size w _ by go_grown) hb1
  have HC := Lib.hid (K0.below hb1 K0.lt)
  have a0 : w1.cell? ⟨w.heap.size, 0, none⟩ = some (.int .i64 (Tn : Int)) := HC.out.cell 0
  have a1 : w1.cell? ⟨w.heap.size, 1, none⟩ = some (.slice A n c) := HC.out.cell 1
  have a2 : w1.cell? ⟨w.heap.size, 2, none⟩ = some (.slice B m d) := HC.out.cell 2
  have q := HC.out.lt
  clear K0 hb1 C1
  go_wp2_with fail
  refine (C2.out _ B1).mono ?_
  rintro e w2 ⟨g, V, rfl, hR, hg, hb2⟩
  obtain ⟨A', c', hV⟩ := own_form (hR.rows i hi)
  have g0 : w2.cell? ⟨g, i, none⟩ = some (.slice A' (showsTo xs (i : Int) n).length c') := (hR.has.cell i).trans ((rows_get hi).trans (congrArg some hV))
  have hO := hR.rows i hi
  rw [hV] at hO
  have HO := Lib.hid hO
  have hgg : w.heap.size ≤ g + 1 := by have := B1.size; omega
  clear hO hR hV
  go_wp2
  go_ret2
  exact ⟨A', _, c', rfl, own_base HO.out hgg, rfl, bvia B1 hb2⟩
set_option maxRecDepth 100000 in
set_option maxHeartbeats 1000000 in
theorem share35o (t : Int) (A B D : Option Addr) (n c m d k e : Nat) (xs ps : List Q4) (ds : List Int) (w : World) (hn : n ≤ 9223372036854775807) (hm : m ≤ 9223372036854775807) (hk : k ≤ 9223372036854775807) (hx : RdQ w w.heap.size A xs) (hp : RdQ w w.heap.size B ps) (hd : RdI w w.heap.size D ds)
    (hl : xs.length = n) (hl' : ps.length = m) (hlk : ds.length = k) (ht0 : -9223372036854775808 ≤ t) (hE : chkE t xs ps ds = 0) :
    Calls Try.prog 35 #[vCloth t A n c B m d, .slice D k e] w fun e w' => ∃ g, e = .returned (.tuple #[.slice (some ⟨g, 0, none⟩) 16 16, .int .i64 0]) ∧ w.heap.size ≤ g ∧ Has w' g 68 ((shareTo (overL xs ds) n).map vInt) ∧ Below w.heap.size w w' := by
  have HL := Lib.hid hl
  have HG : Hid (∀ W, W = (w.alloc (.cells #[.int .i64 t, .slice A n c, .slice B m d] 25)).alloc (.cells #[.int .i64 0, .int .i64 0, .int .i64 0, .int .i64 0, .int .i64 0, .int .i64 0, .int .i64 0, .int .i64 0, .int .i64 0, .int .i64 0, .int .i64 0, .int .i64 0, .int .i64 0, .int .i64 0, .int .i64 0, .int .i64 0] 68) → 
      Calls Try.prog 40 #[vCloth t A n c B m d, .slice D k e, .func (.func 55) #[] #[.pointer (some ⟨w.heap.size + 1, 0, none⟩)]] W fun e w' => e = .returned (.int .i64 (chkE t xs ps ds)) ∧ Below w.heap.size W w' ∧ (chkE t xs ps ds = 0 → CollS (w.heap.size + 1) w.heap.size (overL xs ds) w n w') ∧ (chkE t xs ps ds ≠ 0 → CollS (w.heap.size + 1) w.heap.size (overL xs ds) w 0 w')) := by
    rintro W rfl
    refine asked40 (CollS (w.heap.size + 1) w.heap.size (overL xs ds) w) 55 #[.pointer (some ⟨w.heap.size + 1, 0, none⟩)] t A B D n c m d k e w.heap.size xs ps ds _
      Try.call55 (by simp; omega) hn hm hk (hx.below (by go_grown) (Nat.le_refl _)) (hp.below (by go_grown) (Nat.le_refl _)) (hd.below (by go_grown) (Nat.le_refl _)) hl hl' hlk ht0 ⟨Has.new2 rfl, by go_grown⟩ (fun j W W' h1 h2 => h1.mono (by omega) h2)
      (fun h0 j x W hx hI => ?_)
    have hc := over_col h0 _ (mem_of_get (overL_get (ds := ds) hx))
    exact shareF55 _ _ j _ w W _ _ (by omega) (overL_get hx) hc.1 hc.2 (by have := lt_of_get hx; have := (ckE_ok (chkE_ok h0).1).2.2.1; omega) hI
  clear hx hp hd
  rw [hE] at HG
  clear hE
  go_enter Try.func35, Try.ntmps35
  go_wp2_with fail
  refine (HG.out _ rfl).mono ?_
  rintro e w1 ⟨rfl, hb1, hz, _⟩
  obtain ⟨h1, h2⟩ := hz (by first | rfl | trivial)
  have H1 := Lib.hid h1
  have q := h1.lt
  clear hz h1
  go_wp2
  go_ret2
  exact ⟨w.heap.size + 1, rfl, by omega, H1.out, h2⟩
end Go.Proofs.Ytnijfkidgndbdaa
