/-
  The walk of UndoAbove: it returns true, given undo.Net's contract.
-/
import Derived.Test.YtnjenggijmbhcaaAwk
import Derived.Test.YtnjenggijmbhcaaNetE
import Derived.Test.YtnjenggijmbhcaaR28b
import Derived.Test.YtnjenggijmbhcaaR28c
import Derived.Test.YtnjenggijmbhcaaR04c
namespace Go.Proofs.Ytnjenggijmbhcaa
open Go.RowKit
def netP (p : Int) (ws : List Wk) : Int := if schk p ws = 0 then p else 0
def netW (p : Int) (ws : List Wk) : List Wk := if schk p ws = 0 then netL ws else []
theorem netUnAll (NU : NetSays) (p : Int) (A : Option Addr) (n c : Nat) (ws : List Wk) (w : World) (hn : n ≤ 9223372036854775807) (hnc : n ≤ c) (hw : RdW w w.heap.size A ws) (hl : ws.length = n)
    (hs : ∀ x ∈ ws, x.word.size ≤ 9223372036854775807) :
    Calls Try.prog 15 #[.agg #[.int .i64 p, .slice A n c]] w (RetSE (netP p ws) (netW p ws) (schk p ws) w) := by
  by_cases h0 : schk p ws = 0
  · unfold netP netW; rw [if_pos h0, if_pos h0, h0]; exact NU p A n c ws w hn hnc hw hl hs h0
  · unfold netP netW; rw [if_neg h0, if_neg h0]; exact NetUnE p A n c ws w hn hw hl hs h0
theorem net28All (p : Int) (A : Option Addr) (n c : Nat) (ws : List Wk) (w : World) (hn : n ≤ 9223372036854775807) (hnc : n ≤ c) (hw : RdW w w.heap.size A ws) (hl : ws.length = n)
    (hs : ∀ x ∈ ws, x.word.size ≤ 9223372036854775807) :
    Calls Try.prog 16 #[.agg #[.int .i64 p, .slice A n c]] w (RetSE (netP p ws) (netW p ws) (schk p ws) w) := by
  by_cases h0 : schk p ws = 0
  · unfold netP netW; rw [if_pos h0, if_pos h0, h0]; exact Net28 p A n c ws w hn hnc hw hl hs h0
  · unfold netP netW; rw [if_neg h0, if_neg h0]; exact Net28E p A n c ws w hn hw hl hs h0
set_option maxRecDepth 100000 in
set_option maxHeartbeats 1000000 in
theorem aboveOf (NU : NetSays) (p at_ k a : Int) (s : ByteArray) (A : Option Addr) (n c : Nat) (ws : List Wk) (w : World) (hn : n ≤ 9223372036854775807) (hnc : n ≤ c) (hcm : c ≤ 9223372036854775807)
    (hw : RdW w w.heap.size A ws) (hl : ws.length = n) (hs : ∀ x ∈ ws, x.word.size ≤ 9223372036854775807) (hs2 : s.size ≤ 9223372036854775807) :
    Calls Try.prog 3 #[.agg #[.int .i64 p, .slice A n c], .int .i64 at_, .agg #[.int .i64 k, .int .i64 a, .string s]] w fun e w' => e = .returned (.bool true) ∧ Below w.heap.size w w' := by
  have AW := Lib.hid (awakeOf NU)
  have NU := Lib.hid NU
  have HW := Lib.hid hw; clear hw
  have HL := Lib.hid hl; clear hl
  have HS := Lib.hid hs; clear hs
  have K0 : Has ((w.alloc (.cells #[.int .i64 p, .slice A n c] 24)).alloc (.cells #[.int .i64 k, .int .i64 a, .string s] 26)) w.heap.size 24 [.int .i64 p, .slice A n c] := (Has.new rfl).alloc _
  have K1 : Has ((w.alloc (.cells #[.int .i64 p, .slice A n c] 24)).alloc (.cells #[.int .i64 k, .int .i64 a, .string s] 26)) (w.heap.size + 1) 26 [.int .i64 k, .int .i64 a, .string s] := by
    have := Has.new (w := w.alloc (.cells #[.int .i64 p, .slice A n c] 24)) (arr := #[.int .i64 k, .int .i64 a, .string s]) (t := 26) (cs := [.int .i64 k, .int .i64 a, .string s]) rfl
    simpa using this
  have B0 : Below w.heap.size w ((w.alloc (.cells #[.int .i64 p, .slice A n c] 24)).alloc (.cells #[.int .i64 k, .int .i64 a, .string s] 26)) := by go_grown
  by_cases hf : (decide ((200 : Int) < n ∧ n ≤ 400) || decide (450 < n)) = true
  · have HF := Lib.hid hf; clear hf
    go_enter Try.func3, Try.ntmps3
    go_wp2_with fail
    refine (far11 _ _ _ _ _ _ hn).mono ?_
    rintro e w1 ⟨rfl, hb1⟩
    rw [HF.out]
    go_wp2_with fail
    refine (AW.out _).mono ?_
    rintro e w2 ⟨rfl, hb2⟩
    go_wp2
    go_ret
    exact ⟨rfl, bvia (bvia B0 hb1) hb2⟩
  have hf : (decide ((200 : Int) < n ∧ n ≤ 400) || decide (450 < n)) = false := by simpa using hf
  have HF := Lib.hid hf; clear hf
  by_cases hz : 100 < (s.size : Int)
  · go_enter Try.func3, Try.ntmps3
    go_wp2_with fail
    refine (far11 _ _ _ _ _ _ hn).mono ?_
    rintro e w1 ⟨rfl, hb1⟩
    rw [HF.out]
    have K1' := K1.below hb1 (by simp)
    have c2 : w1.cell? ⟨w.heap.size + 1, 2, none⟩ = some (.string s) := K1'.cell 2
    go_wp2_with fail
    refine (AW.out _).mono ?_
    rintro e w2 ⟨rfl, hb2⟩
    go_wp2
    go_ret
    exact ⟨rfl, bvia (bvia B0 hb1) hb2⟩
  go_enter Try.func3, Try.ntmps3
  go_wp2_with fail
  refine (far11 _ _ _ _ _ _ hn).mono ?_
  rintro e w1 ⟨rfl, hb1⟩
  rw [HF.out]
  have HK := Lib.hid (show ∀ w', Below w1.heap.size w1 w' → w'.cell? ⟨w.heap.size, 0, none⟩ = some (.int .i64 p) ∧ w'.cell? ⟨w.heap.size, 1, none⟩ = some (.slice A n c) ∧
      w'.cell? ⟨w.heap.size + 1, 0, none⟩ = some (.int .i64 k) ∧ w'.cell? ⟨w.heap.size + 1, 1, none⟩ = some (.int .i64 a) ∧ w'.cell? ⟨w.heap.size + 1, 2, none⟩ = some (.string s) from
    fun w' hb => by
      have hb := bvia hb1 hb
      exact ⟨(K0.below hb K0.lt).cell 0, (K0.below hb K0.lt).cell 1, (K1.below hb K1.lt).cell 0, (K1.below hb K1.lt).cell 1, (K1.below hb K1.lt).cell 2⟩)
  have B1 : Below w.heap.size w w1 := bvia B0 hb1
  clear K0 K1 hb1 B0
  obtain ⟨a0, a1, a2, a3, a4⟩ := HK.out _ (Below.refl _ _)
  go_wp2_with fail
  refine (AboveUn _ _ _ _ _ _ _ _ _ _ hn hnc hcm (HW.out.up B1) HL.out HS.out hs2).mono ?_
  rintro e w2 ⟨A2, n2, c2, rfl, r2, l2, m2, o2, hb2⟩
  clear a0 a1 a2 a3 a4
  obtain ⟨a0, a1, a2, a3, a4⟩ := HK.out _ hb2
  go_wp2_with fail
  refine (Above28 _ _ _ _ _ _ _ _ _ _ hn (HW.out.up (bvia B1 hb2)) HL.out HS.out hs2).mono ?_
  rintro e w3 ⟨A3, n3, c3, rfl, r3, l3, m3, o3, hb3⟩
  have R2 := Lib.hid (r2.up hb3)
  have b3 : Below w1.heap.size w1 w3 := bvia hb2 hb3
  clear hb2 hb3 a0 a1 a2 a3 a4 r2
  obtain ⟨a0, a1, a2, a3, a4⟩ := HK.out _ b3
  have R3 := Lib.hid r3; clear r3
  go_wp2_with fail
  refine (netUnAll NU.out _ _ _ _ _ _ hn hnc (HW.out.up (bvia B1 b3)) HL.out HS.out).mono ?_
  rintro e w4 ⟨A4, n4, c4, rfl, r4, l4, m4, o4, hb4⟩
  have b4 : Below w1.heap.size w1 w4 := bvia b3 hb4
  have b5 : Below w1.heap.size w1 (w4.alloc (.cells #[.int .i64 (netP p ws), .slice A4 n4 c4] 24)) := bvia b4 (by go_grown)
  clear a0 a1 a2 a3 a4
  obtain ⟨a0, a1, a2, a3, a4⟩ := HK.out _ b5
  have R2' := Lib.hid (R2.out.up hb4); clear R2
  have R3' := Lib.hid (R3.out.up hb4); clear R3
  have R4 := Lib.hid r4; clear r4 hb4
  have Y4 : Has (w4.alloc (.cells #[.int .i64 (netP p ws), .slice A4 n4 c4] 24)) w4.heap.size 24 [.int .i64 (netP p ws), .slice A4 n4 c4] := Has.new rfl
  go_wp2_with fail
  refine (net28All _ _ _ _ _ _ hn hnc (HW.out.up (bvia B1 b5)) HL.out HS.out).mono ?_
  rintro e w6 ⟨A6, n6, c6, rfl, r6, l6, m6, o6, hb6⟩
  have Y6 := Y4.below hb6 Y4.lt
  have B6 : Below w.heap.size w w6 := bvia (bvia B1 b5) hb6
  have up46 : Below w4.heap.size w4 w6 := bvia (show Below w4.heap.size w4 (w4.alloc (.cells #[.int .i64 (netP p ws), .slice A4 n4 c4] 24)) by go_grown) hb6
  have up7 : Below w6.heap.size w6 (w6.alloc (.cells #[.int .i64 (netP p ws), .slice A6 n6 c6] 24)) := by go_grown
  have R2 := Lib.hid (R2'.out.up (bvia up46 up7)); clear R2'
  have R3 := Lib.hid (R3'.out.up (bvia up46 up7)); clear R3'
  have R4' := Lib.hid (R4.out.up (bvia up46 up7)); clear R4
  have R6 := Lib.hid (r6.up up7); clear r6
  have Z4 := Y6.below up7 Y6.lt
  have Z6 : Has (w6.alloc (.cells #[.int .i64 (netP p ws), .slice A6 n6 c6] 24)) w6.heap.size 24 [.int .i64 (netP p ws), .slice A6 n6 c6] := Has.new rfl
  clear a0 a1 a2 a3 a4 b3 b4 b5 hb6 HK Y4 Y6 up46
  go_wp2_with fail
  refine (sameInts04 _ _ _ _ _ _ _ _ _ (by omega) (by omega) R2.out R3.out l2 l3).mono ?_
  rintro e w8 ⟨rfl, hb8⟩
  have X4 := Z4.below hb8 Z4.lt
  have X6 := Z6.below hb8 Z6.lt
  have x0 : w8.cell? ⟨w4.heap.size, 0, none⟩ = some (.int .i64 (netP p ws)) := X4.cell 0
  have x1 : w8.cell? ⟨w4.heap.size, 1, none⟩ = some (.slice A4 n4 c4) := X4.cell 1
  have x2 : w8.cell? ⟨w6.heap.size, 0, none⟩ = some (.int .i64 (netP p ws)) := X6.cell 0
  have x3 : w8.cell? ⟨w6.heap.size, 1, none⟩ = some (.slice A6 n6 c6) := X6.cell 1
  rw [beq_self_eq_true]
  go_wp2_with fail
  refine (same04 _ _ _ _ _ _ _ _ _ _ _ (by omega) (by omega) (R4'.out.up hb8) (R6.out.up hb8) l4 l6).mono ?_
  rintro e w9 ⟨rfl, hb9⟩
  rw [beq_self_eq_true, beq_self_eq_true]
  go_wp2_with fail
  refine (AW.out _).mono ?_
  rintro e w10 ⟨rfl, hb10⟩
  go_wp2
  go_ret
  exact ⟨rfl, bvia (bvia (bvia (bvia B6 up7) hb8) hb9) hb10⟩
end Go.Proofs.Ytnjenggijmbhcaa
