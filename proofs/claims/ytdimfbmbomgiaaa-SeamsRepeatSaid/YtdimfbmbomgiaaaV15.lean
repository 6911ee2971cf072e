/-
  Walks of the laws SeamsRepeat and SeamsFewest.
-/
import Derived.Test.YtdimfbmbomgiaaaV1
import Derived.Test.YtdimfbmbomgiaaaV14
import Derived.Lib.SmallJoins
import Derived.Deep.Slices
import Derived.Deep.Strs
import Derived.OpenShut
import Derived.Carry
namespace Go.Proofs.Ytdimfbmbomgiaaa
open Go.RowKit
set_option maxRecDepth 100000 in
set_option maxHeartbeats 2000000 in
theorem repeatOf (p : Int) (A : Option Addr) (n c : Nat) (t : Int) (ws : List Wk) (w : World) (hn : n ≤ 9223372036854775807) (hw : RdW w w.heap.size A ws) (hl : ws.length = n) (hs : ∀ x ∈ ws, x.word.size ≤ 9223372036854775807) :
    Calls Try.prog 3 #[.agg #[.int .i64 p, .slice A n c], .int .i64 t] w fun e w' => e = .returned (.bool true) ∧ Below w.heap.size w w' := by
  have CF := Lib.hid (fun (W : World) (hb : Below w.heap.size w W) => far24 p A n c ws W hn (hw.up hb) hl hs)
  have C1 := Lib.hid (fun (W : World) (hb : Below w.heap.size w W) => repeat11 p A n c t ws W hn (hw.up hb) hl hs)
  have C2 := Lib.hid (fun (W : World) (hb : Below w.heap.size w W) => repeat12 p A n c t ws W hn (hw.up hb) hl hs)
  have K0 : Has (w.alloc (.cells #[.int .i64 p, .slice A n c] 24)) w.heap.size 24 [.int .i64 p, .slice A n c] := Has.new rfl
  clear hw hl hs
  go_enter Try.func3, Try.ntmps3
  go_wp2_with fail
  refine (CF.out _ (by go_grown)).mono ?_
  rintro e w1 ⟨⟨b, rfl⟩, hb1⟩
  have B1 := Lib.hid (bvia (show Below w.heap.size w _ by go_grown) hb1)
  have HK := Lib.hid (K0.below hb1 K0.lt)
  clear K0 hb1 CF
  cases b with
  | true =>
    go_wp2_with fail
    refine (shown10 _).mono ?_
    rintro e w2 ⟨rfl, hb2⟩
    go_wp2
    go_ret
    exact ⟨rfl, bvia B1.out hb2⟩
  | false =>
    have a0 : w1.cell? ⟨w.heap.size, 0, none⟩ = some (.int .i64 p) := HK.out.cell 0
    have a1 : w1.cell? ⟨w.heap.size, 1, none⟩ = some (.slice A n c) := HK.out.cell 1
    have q := HK.out.lt
    go_wp2_with fail
    refine (C1.out _ B1.out).mono ?_
    rintro e w2 ⟨A2, n2, c2, rfl, r2, l2, hn2, hc2, hb2⟩
    have B2 := Lib.hid (bvia B1.out hb2)
    have HK2 := Lib.hid (HK.out.below hb2 HK.out.lt)
    obtain ⟨v2, hv2⟩ : ∃ v2, v2 = w2.alloc (.cells #[.int .i64 (repP p ws t), .slice A2 n2 c2] 24) := ⟨_, rfl⟩
    have HX : Hid (Has v2 w2.heap.size 24 [.int .i64 (repP p ws t), .slice A2 n2 c2]) := by show Has _ _ _ _; rw [hv2]; exact Has.new rfl
    have HA : Hid (Below w2.heap.size w2 v2) := by show Below _ _ _; rw [hv2]; go_grown
    have R2 := Lib.hid (r2.up HA.out)
    have B3 := Lib.hid (bvia B2.out HA.out)
    have HK3 := Lib.hid (HK2.out.below HA.out HK2.out.lt)
    have b0 : v2.cell? ⟨w.heap.size, 0, none⟩ = some (.int .i64 p) := HK3.out.cell 0
    have b1 : v2.cell? ⟨w.heap.size, 1, none⟩ = some (.slice A n c) := HK3.out.cell 1
    have q3 := HK3.out.lt
    have q2 := HK2.out.lt
    clear a0 a1 q hb2 HK B1 r2 HK2 B2 HA
    go_upto_region 4 with (fail)
    rw [← hv2]
    clear hv2
    go_wp2_with fail
    refine (C2.out _ B3.out).mono ?_
    rintro e w4 ⟨A4, n4, c4, rfl, r4, l4, hn4, hc4, hb4⟩
    have B4 := Lib.hid (bvia B3.out hb4)
    have HX4 := Lib.hid (HX.out.below hb4 HX.out.lt)
    have R24 := Lib.hid (R2.out.up hb4)
    have R4 := Lib.hid r4
    have x0 : w4.cell? ⟨w2.heap.size, 0, none⟩ = some (.int .i64 (repP p ws t)) := HX4.out.cell 0
    have x1 : w4.cell? ⟨w2.heap.size, 1, none⟩ = some (.slice A2 n2 c2) := HX4.out.cell 1
    have xq := HX4.out.lt
    clear b0 b1 q3 hb4 r4 HK3 B3 HX R2
    have CS := Lib.hid (fun (W : World) (hb : Below w4.heap.size w4 W) => same04 (repP p ws t) (repP p ws t) A2 A4 n2 n4 c2 c4 (repL p ws t) (repL p ws t) W (Nat.le_trans hn2 hc2) (Nat.le_trans hn4 hc4) (R24.out.up hb) (R4.out.up hb) l2 l4)
    have HT : Hid ((repP p ws t == repP p ws t && repL p ws t == repL p ws t) = true) := by show _ = _; simp
    go_wp2_with fail
    refine (CS.out _ (by go_grown)).mono ?_
    rintro e w5 ⟨rfl, hb5⟩
    rw [HT.out]
    have B5 := Lib.hid (bvia B4.out (bvia (show Below w4.heap.size w4 _ by go_grown) hb5))
    clear x0 x1 xq hb5 CS
    go_wp2_with fail
    refine (shown10 _).mono ?_
    rintro e w6 ⟨rfl, hb6⟩
    go_wp2
    go_ret
    exact ⟨rfl, bvia B5.out hb6⟩
set_option maxRecDepth 100000 in
set_option maxHeartbeats 2000000 in
theorem fewestOf (p : Int) (A : Option Addr) (n c : Nat) (ws : List Wk) (w : World) (hn : n ≤ 9223372036854775807) (hw : RdW w w.heap.size A ws) (hl : ws.length = n) (hs : ∀ x ∈ ws, x.word.size ≤ 9223372036854775807) :
    Calls Try.prog 5 #[.agg #[.int .i64 p, .slice A n c]] w fun e w' => e = .returned (.bool true) ∧ Below w.heap.size w w' := by
  have CF := Lib.hid (fun (W : World) (hb : Below w.heap.size w W) => far24 p A n c ws W hn (hw.up hb) hl hs)
  have C1 := Lib.hid (fun (W : World) (hb : Below w.heap.size w W) => fewest21 p A n c ws W hn (hw.up hb) hl hs)
  have C2 := Lib.hid (fun (W : World) (hb : Below w.heap.size w W) => fewest22 p A n c ws W hn (hw.up hb) hl hs)
  have K0 : Has (w.alloc (.cells #[.int .i64 p, .slice A n c] 24)) w.heap.size 24 [.int .i64 p, .slice A n c] := Has.new rfl
  clear hw hl hs
  go_enter Try.func5, Try.ntmps5
  go_wp2_with fail
  refine (CF.out _ (by go_grown)).mono ?_
  rintro e w1 ⟨⟨b, rfl⟩, hb1⟩
  have B1 := Lib.hid (bvia (show Below w.heap.size w _ by go_grown) hb1)
  have HK := Lib.hid (K0.below hb1 K0.lt)
  clear K0 hb1 CF
  cases b with
  | true =>
    go_wp2_with fail
    refine (shown10 _).mono ?_
    rintro e w2 ⟨rfl, hb2⟩
    go_wp2
    go_ret
    exact ⟨rfl, bvia B1.out hb2⟩
  | false =>
    have a0 : w1.cell? ⟨w.heap.size, 0, none⟩ = some (.int .i64 p) := HK.out.cell 0
    have a1 : w1.cell? ⟨w.heap.size, 1, none⟩ = some (.slice A n c) := HK.out.cell 1
    have q := HK.out.lt
    generalize (fewR p ws).1 = x1 at *
    generalize (fewR p ws).2 = x2 at *
    generalize schk p ws = er at *
    go_wp2_with fail
    refine (C1.out _ B1.out).mono ?_
    rintro e w2 ⟨rfl, hb2⟩
    have B2 := Lib.hid (bvia B1.out hb2)
    have HK2 := Lib.hid (HK.out.below hb2 HK.out.lt)
    clear a0 a1 q hb2 HK B1
    have a0 : w2.cell? ⟨w.heap.size, 0, none⟩ = some (.int .i64 p) := HK2.out.cell 0
    have a1 : w2.cell? ⟨w.heap.size, 1, none⟩ = some (.slice A n c) := HK2.out.cell 1
    have q := HK2.out.lt
    go_wp2_with fail
    refine (C2.out _ B2.out).mono ?_
    rintro e w3 ⟨rfl, hb3⟩
    have B3 := Lib.hid (bvia B2.out hb3)
    have d1 : ((x1 : Int) == (x1 : Int)) = true := by simp
    have d2 : ((x2 : Int) == (x2 : Int)) = true := by simp
    have d3 : (er == er) = true := by simp
    clear a0 a1 q hb3 HK2 B2
    go_wp2_with fail
    refine (shown10 _).mono ?_
    rintro e w4 ⟨rfl, hb4⟩
    go_wp2
    go_ret
    exact ⟨rfl, bvia B3.out hb4⟩
end Go.Proofs.Ytdimfbmbomgiaaa
/-
  Arguments of the statements read as words: a sheet, a work.
-/
namespace Go.Proofs.Ytdimfbmbomgiaaa
open Go.RowKit Go.ChangeShapes Go.WideShapes Go.ChangeAt Go.Joins Go.Deep
theorem maxLen_le : maxLen ≤ 9223372036854775807 := by simp [maxLen]
instance : Inhabited Wk := ⟨⟨0, 0, ⟨#[]⟩⟩⟩
theorem cellsWk : Try.prog.cellsOf 63 = 3 := by kernel_rfl
theorem cellsSheet : Try.prog.cellsOf 24 = 2 := by kernel_rfl
theorem cellsI : Try.prog.cellsOf 3 = 1 := by kernel_rfl
theorem cellsS : Try.prog.cellsOf 9 = 1 := by kernel_rfl
section
variable {H : Type} {enc : TypeId × Value → H} {w : World} {held : Bool}
set_option maxRecDepth 100000 in
/-- the three cells of a work -/
theorem cells_wk {n : Nat} {cs : List Value} {x : DataW H × List MemPlace} {sp : Nat → Bool} {base : Nat} (h : DataW.trod enc Try.prog w base sp held n 63 cs = some x) :
    ∃ y : Wk, cs = [.int .i64 y.kind, .int .i64 y.at_, .string y.word] ∧ y.word.size ≤ 9223372036854775807 := by
  obtain ⟨y0, y1, y2, m, _, hl, h0, h1, h2⟩ := trod_struct3 Try.underlying63 h
  rw [cellsWk] at hl
  match cs, hl with
  | [v0, v1, v2], _ =>
    simp [cellsI, cellsS] at h0 h1 h2
    obtain ⟨k, e0, _, _⟩ := DataW.trod_int Try.underlying3 h0
    obtain ⟨a, e1, _, _⟩ := DataW.trod_int Try.underlying3 h1
    obtain ⟨s, e2, _, hs⟩ := DataW.trod_string Try.underlying9 h2
    simp at e0 e1 e2
    subst e0 e1 e2
    exact ⟨⟨k, a, s⟩, rfl, Nat.le_trans hs maxLen_le⟩
set_option maxRecDepth 100000 in
/-- a cell that reads as a slice of works -/
theorem cell_wks {n : Nat} {v : Value} {x : DataW H × List MemPlace} (h : DataW.trod enc Try.prog w 0 (fun _ => true) held n 22 [v] = some x) :
    ∃ (A : Option Addr) (n c : Nat) (ws : List Wk), v = .slice A n c ∧ n ≤ c ∧ c ≤ 9223372036854775807 ∧ RdW w w.heap.size A ws ∧ ws.length = n ∧ (∀ y ∈ ws, y.word.size ≤ 9223372036854775807) := by
  rcases open_slice Try.underlying22 h with ⟨hv, _⟩ | ⟨a, len, cap, m, q, D, Pl, hv, _, hl, hc, hm, hx, hcs⟩
  · simp at hv
    exact ⟨none, 0, 0, [], hv, Nat.le_refl _, by omega, RdW.nil _ _ _, rfl, by simp⟩
  · simp only [if_true] at hm
    subst hm
    simp at hv
    have each : ∀ i, i < len → ∃ y : Wk, y.word.size ≤ 9223372036854775807 ∧ w.cell? (a.add (i * 3)) = some (.int .i64 y.kind) ∧ w.cell? (a.add (i * 3 + 1)) = some (.int .i64 y.at_) ∧ w.cell? (a.add (i * 3 + 2)) = some (.string y.word) := by
      intro i hi
      obtain ⟨cs', h1, h2⟩ := hcs i (by omega)
      rw [cellsWk] at h1
      obtain ⟨_, hlen, hcell⟩ := World.cells?_some h1
      obtain ⟨y, rfl, hy⟩ := cells_wk h2
      have e0 := hcell 0 (by omega)
      have e1 := hcell 1 (by omega)
      have e2 := hcell 2 (by omega)
      rw [add_add] at e0 e1 e2
      exact ⟨y, hy, by simpa using e0, by simpa using e1, by simpa using e2⟩
    obtain ⟨X, hX⟩ := choose_lt each
    refine ⟨some a, len, m, (List.range len).map X, hv, hl, Nat.le_trans hc maxLen_le, ?_, by simp, ?_⟩
    · intro k x hx
      have hk : k < len := by have := lt_of_get hx; simpa using this
      have : X k = x := by simpa [hk] using hx
      subst this
      obtain ⟨_, c0, c1, c2⟩ := hX k hk
      obtain ⟨b, o, spot⟩ := a
      have z0 := (hX 0 (by omega)).2.1
      rw [Nat.zero_mul] at z0
      have hs : spot = none := by simpa [Addr.add] using World.cell?_spot z0
      subst hs
      simp only [Addr.add_lit] at c0 c1 c2
      refine ⟨b, o, rfl, ?_, c0, by rw [Nat.add_assoc]; exact c1, by rw [Nat.add_assoc]; exact c2⟩
      refine Nat.lt_of_not_le fun hge => ?_
      have : w.cell? ⟨b, o + k * 3, none⟩ = none := by
        simp [World.cell?, Array.getElem?_eq_none hge]
      rw [this] at c0; cases c0
    · intro y hy
      simp at hy
      obtain ⟨k, hk, rfl⟩ := hy
      exact (hX k hk).1
set_option maxRecDepth 100000 in
/-- an argument that is a sheet -/
theorem openSheet {r : Reach} {b0 : Nat} {v : Value} {d : DataW H} {ps : List MemPlace} (hv : Value.okWide Try.prog w r b0 24 v) (h : DataW.Trod enc Try.prog w 0 (fun _ => true) held 24 v d ps) :
    ∃ (p : Int) (A : Option Addr) (n c : Nat) (ws : List Wk), v = .agg #[.int .i64 p, .slice A n c] ∧ n ≤ c ∧ c ≤ 9223372036854775807 ∧ RdW w w.heap.size A ws ∧ ws.length = n ∧ (∀ y ∈ ws, y.word.size ≤ 9223372036854775807) := by
  obtain ⟨c0, c1, y0, y1, m, rfl, rfl, rfl, h0, h1⟩ := open_agg2 Try.underlying24 (by kernel_rfl) cellsSheet hv h
  obtain ⟨p, e0, _, _⟩ := DataW.trod_int Try.underlying3 h0
  simp at e0
  subst e0
  obtain ⟨A, n, c, ws, rfl, h2, h3, h4, h5, h6⟩ := cell_wks h1
  exact ⟨p, A, n, c, ws, rfl, h2, h3, h4, h5, h6⟩
set_option maxRecDepth 100000 in
/-- an argument that is a work -/
theorem openWork {r : Reach} {b0 : Nat} {v : Value} {d : DataW H} {ps : List MemPlace} {sp : Nat → Bool} (hv : Value.okWide Try.prog w r b0 63 v) (h : DataW.Trod enc Try.prog w 0 sp held 63 v d ps) :
    ∃ (k a : Int) (s : ByteArray), v = .agg #[.int .i64 k, .int .i64 a, .string s] ∧ s.size ≤ 9223372036854775807 := by
  obtain ⟨c0, c1, c2, y0, y1, y2, m, rfl, rfl, rfl, h0, h1, h2⟩ := open_agg3 Try.underlying63 (by kernel_rfl) cellsWk hv h
  obtain ⟨k, e0, _, _⟩ := DataW.trod_int Try.underlying3 h0
  obtain ⟨a, e1, _, _⟩ := DataW.trod_int Try.underlying3 h1
  obtain ⟨s, e2, _, hs⟩ := DataW.trod_string Try.underlying9 h2
  simp at e0 e1 e2
  subst e0 e1 e2
  exact ⟨k, a, s, rfl, Nat.le_trans hs maxLen_le⟩
end
end Go.Proofs.Ytdimfbmbomgiaaa
