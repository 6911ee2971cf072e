/-
  Contracts of chapter 21: Share of both packages.
-/
import Derived.Test.YtnijfkidgndbdaaShp
namespace Go.Proofs.Ytnijfkidgndbdaa
open Go.RowKit
/-- how often each colour stands among the first k -/
def shareTo (a : List Int) : Nat → List Int
  | 0 => List.replicate 16 0
  | k + 1 => (shareTo a k).set (a.getD k 0).toNat ((shareTo a k).getD (a.getD k 0).toNat 0 + 1)
theorem shareTo_len (a : List Int) : ∀ k, (shareTo a k).length = 16
  | 0 => by simp [shareTo]
  | k + 1 => by show (List.set _ _ _).length = 16; rw [List.length_set, shareTo_len a k]
theorem shareTo_le (a : List Int) : ∀ (k : Nat) (v : Int), v ∈ shareTo a k → 0 ≤ v ∧ v ≤ k
  | 0, v, h => by
    have := List.eq_of_mem_replicate (show v ∈ List.replicate 16 (0 : Int) from h); omega
  | k + 1, v, h => by
    rcases List.mem_or_eq_of_mem_set h with h | rfl
    · have := shareTo_le a k v h; omega
    · rw [List.getD_eq_getElem?_getD]
      cases hx : (shareTo a k)[(a.getD k 0).toNat]? with
      | none => simp; omega
      | some y => have := shareTo_le a k y (mem_of_get hx); simp; omega
theorem shareTo_succ {a : List Int} {k i : Nat} {y : Int} (hx : a[k]? = some (i : Int)) (hy : (shareTo a k)[i]? = some y) : shareTo a (k + 1) = (shareTo a k).set i (y + 1) := by
  show (shareTo a k).set (a.getD k 0).toNat ((shareTo a k).getD (a.getD k 0).toNat 0 + 1) = _
  have e : (a.getD k 0).toNat = i := by rw [List.getD_eq_getElem?_getD, hx]; simp
  rw [e, List.getD_eq_getElem?_getD, hy]; rfl
def shareR (t : Int) (xs ps : List Q4) (ds : List Int) : List Int := if chkE t xs ps ds = 0 then shareTo (overL xs ds) xs.length else []
theorem over_col {t : Int} {xs ps : List Q4} {ds : List Int} (h : chkE t xs ps ds = 0) : ∀ y ∈ overL xs ds, 0 ≤ y ∧ y < 16 := fun y hy => by
  unfold overL at hy
  obtain ⟨z, hz, rfl⟩ := List.mem_map.1 hy
  obtain ⟨g1, g2, g3⟩ := chkE_ok h
  obtain ⟨⟨⟨q1, q2⟩, _⟩, _⟩ := cross_ok g1 z hz
  exact col_get g3 _ (by omega)
theorem rdI_hasT {w : World} {g : Nat} {t : TypeId} {L : List Int} (h : Has w g t (L.map vInt)) : RdI w w.heap.size (some ⟨g, 0, none⟩) L := fun k x hx => by
  refine ⟨g, 0, rfl, h.lt, ?_⟩
  rw [Nat.zero_add, h.cell, List.getElem?_map, hx]; rfl
structure CollS (gs B0 : Nat) (a : List Int) (w0 : World) (j : Nat) (W : World) : Prop where
  row : Has W gs 68 ((shareTo a j).map vInt)
  low : Below B0 w0 W
theorem CollS.mono {gs B0 : Nat} {a : List Int} {w0 W W' : World} {j : Nat} (hb : B0 ≤ gs) (h : CollS gs B0 a w0 j W) (k : Below W.heap.size W W') : CollS gs B0 a w0 j W' :=
  ⟨h.row.below k h.row.lt, h.low.trans (k.mono (Nat.le_trans hb (Nat.le_of_lt h.row.lt)))⟩
set_option maxRecDepth 100000 in
theorem shareF55 (gs B0 j : Nat) (a : List Int) (w0 W : World) (va vb : Int) (hB : B0 ≤ gs) (ha : a[j]? = some va) (h0 : 0 ≤ va) (h1 : va < 16) (hj : j ≤ 20000) (hI : CollS gs B0 a w0 j W) :
    Calls Try.prog 55 #[.int .i64 (j : Int), .int .i64 va, .int .i64 vb, .pointer (some ⟨gs, 0, none⟩)] W fun e W' => (∃ v, e = .returned v) ∧ CollS gs B0 a w0 (j + 1) W' ∧ Below B0 W W' ∧ KeepsT W W' := by
  obtain ⟨hr, hl⟩ := hI
  obtain ⟨i, rfl⟩ := Int.eq_ofNat_of_zero_le h0
  have hi : i < 16 := by omega
  obtain ⟨y, hy⟩ := get_of_lt (l := shareTo a j) (k := i) (by rw [shareTo_len]; exact hi)
  have hyb := shareTo_le a j y (mem_of_get hy)
  have iw : IntKind.i64.wrap (y + 1) = y + 1 := IntWalk.i64_in _ (by omega)
  have c0 : W.cell? ⟨gs, i, none⟩ = some (.int .i64 y) := (hr.cell i).trans (by rw [List.getElem?_map, hy]; rfl)
  have f0 := hr.free i
  have q := hr.lt
  have HR := Lib.hid hr; clear hr
  have HS : Hid (shareTo a (j + 1) = (shareTo a j).set i (y + 1)) := shareTo_succ ha hy
  clear ha hy
  go_enter Try.func55, Try.ntmps55
  go_wp2
  go_end0
  have h3 := HR.out.set i (.int .i64 (y + 1))
  refine ⟨⟨_, rfl⟩, ⟨?_, hl.setCell (by simpa using hB) _⟩, (Below.refl B0 W).setCell (by simpa using hB) _, keepsT_put HR.out (by decide) (by decide) _ i (fun _ _ _ _ h => h)⟩
  rw [HS.out, List.map_set]; exact h3
set_option maxRecDepth 100000 in
set_option maxHeartbeats 1000000 in
theorem share35 (t : Int) (A B D : Option Addr) (n c m d k e : Nat) (xs ps : List Q4) (ds : List Int) (w : World) (hn : n ≤ 9223372036854775807) (hm : m ≤ 9223372036854775807) (hk : k ≤ 9223372036854775807) (hx : RdQ w w.heap.size A xs) (hp : RdQ w w.heap.size B ps) (hd : RdI w w.heap.size D ds)
    (hl : xs.length = n) (hl' : ps.length = m) (hlk : ds.length = k) (ht0 : -9223372036854775808 ≤ t) :
    Calls Try.prog 35 #[vCloth t A n c B m d, .slice D k e] w (RetIE (shareR t xs ps ds) (chkE t xs ps ds) w) := by
  have HL := Lib.hid hl
  have HG : Hid (∀ W, W = (w.alloc (.cells #[.int .i64 t, .slice A n c, .slice B m d] 25)).alloc (.cells #[.int .i64 0, .int .i64 0, .int .i64 0, .int .i64 0, .int .i64 0, .int .i64 0, .int .i64 0, .int .i64 0, .int .i64 0, .int .i64 0, .int .i64 0, .int .i64 0, .int .i64 0, .int .i64 0, .int .i64 0, .int .i64 0] 68) → 
      Calls Try.prog 40 #[vCloth t A n c B m d, .slice D k e, .func (.func 55) #[] #[.pointer (some ⟨w.heap.size + 1, 0, none⟩)]] W fun e w' => e = .returned (.int .i64 (chkE t xs ps ds)) ∧ Below w.heap.size W w' ∧ (chkE t xs ps ds = 0 → CollS (w.heap.size + 1) w.heap.size (overL xs ds) w n w') ∧ (chkE t xs ps ds ≠ 0 → CollS (w.heap.size + 1) w.heap.size (overL xs ds) w 0 w')) := by
    rintro W rfl
    refine asked40 (CollS (w.heap.size + 1) w.heap.size (overL xs ds) w) 55 #[.pointer (some ⟨w.heap.size + 1, 0, none⟩)] t A B D n c m d k e w.heap.size xs ps ds _
      Try.call55 (by simp; omega) hn hm hk (hx.below (by go_grown) (Nat.le_refl _)) (hp.below (by go_grown) (Nat.le_refl _)) (hd.below (by go_grown) (Nat.le_refl _)) hl hl' hlk ht0 ⟨Has.new2 rfl, by go_grown⟩ (fun j W W' h1 h2 => h1.mono (by omega) h2)
      (fun h0 j x W hx hI => ?_)
    have hc := over_col h0 _ (mem_of_get (overL_get (ds := ds) hx))
    exact shareF55 _ _ j _ w W _ _ (by omega) (overL_get hx) hc.1 hc.2 (by have := lt_of_get hx; have := (ckE_ok (chkE_ok h0).1).2.2.1; omega) hI
  clear hx hp hd
  by_cases hE : chkE t xs ps ds = 0
  · have hR : shareR t xs ps ds = shareTo (overL xs ds) n := by unfold shareR; rw [if_pos hE, hl]
    rw [hR]
    rw [hE] at HG ⊢
    clear hE hR
    go_enter Try.func35, Try.ntmps35
    go_wp2_with fail
    refine (HG.out _ rfl).mono ?_
    rintro e w1 ⟨rfl, hb1, hz, _⟩
    obtain ⟨h1, h2⟩ := hz (by first | rfl | trivial)
    have H1 := Lib.hid h1
    have q := h1.lt
    clear hz h1
    go_wp2
    go_ret2
    exact ⟨some ⟨w.heap.size + 1, 0, none⟩, 16, 16, rfl, rdI_hasT H1.out, shareTo_len _ _, Nat.le_refl _, by omega, h2⟩
  · have hR : shareR t xs ps ds = [] := by unfold shareR; rw [if_neg hE]
    rw [hR]
    generalize chkE t xs ps ds = r at *
    have hr : (r != 0) = true := by simpa using hE
    have HE := Lib.hid hE
    clear hE hR
    go_enter Try.func35, Try.ntmps35
    go_wp2_with fail
    refine (HG.out _ rfl).mono ?_
    rintro e w1 ⟨rfl, hb1, _, hz⟩
    obtain ⟨h1, h2⟩ := hz HE.out
    clear hz h1
    go_wp2
    go_ret2
    exact ⟨none, 0, 0, rfl, Rd1.nil _ _ _ _, rfl, Nat.le_refl _, by omega, h2⟩
set_option maxRecDepth 100000 in
set_option maxHeartbeats 2000000 in
theorem share36 (t : Int) (A B D : Option Addr) (n c m d k e : Nat) (xs ps : List Q4) (ds : List Int) (w : World) (hn : n ≤ 9223372036854775807) (hm : m ≤ 9223372036854775807) (hk : k ≤ 9223372036854775807) (hx : RdQ w w.heap.size A xs) (hp : RdQ w w.heap.size B ps) (hd : RdI w w.heap.size D ds)
    (hl : xs.length = n) (hl' : ps.length = m) (hlk : ds.length = k) (ht0 : -9223372036854775808 ≤ t) :
    Calls Try.prog 36 #[vCloth t A n c B m d, .slice D k e] w (RetIE (shareR t xs ps ds) (chkE t xs ps ds) w) := by
  have C1 := Lib.hid (fun (W : World) (hb : Below w.heap.size w W) => seen15 t A B D n c m d k e xs ps ds W hn hm hk (hx.up hb) (hp.up hb) (hd.up hb) hl hl' hlk ht0)
  clear hx hp hd
  have K0 : Has (w.alloc (.cells #[.int .i64 t, .slice A n c, .slice B m d] 25)) w.heap.size 25 [.int .i64 t, .slice A n c, .slice B m d] := Has.new rfl
  by_cases hE : chkE t xs ps ds = 0
  · have hn2 : n ≤ 20000 := by have := (ckE_ok (chkE_ok hE).1).2.2.1; rw [hl] at this; exact this
    have hR1 : seenR t xs ps ds = overL xs ds := by unfold seenR; rw [if_pos hE]
    have hR3 : shareR t xs ps ds = shareTo (overL xs ds) n := by unfold shareR; rw [if_pos hE, hl]
    have HOV := Lib.hid (over_col hE)
    rw [hR1, hE] at C1
    rw [hR3, hE]
    have LA : Hid ((overL xs ds).length = n) := by show _ = n; unfold overL; rw [List.length_map, hl]
    have hmk : ∀ W : World, (Instr.makeSlice 26 (.int .i64 16) (.int .i64 16)).run Try.prog W = .ok (.slice (some ⟨W.heap.size, 0, none⟩) 16 16) (W.alloc (.cells (madeCells #[.int .i64 0] 16) 3)) := fun W => mkI 16 (by omega) W
    clear hE hR1 hR3 hl
    generalize overL xs ds = la at *
    go_enter Try.func36, Try.ntmps36
    go_wp2_with fail
    refine (C1.out _ (by go_grown)).mono ?_
    rintro e w1 ⟨A1, n1, c1, rfl, r1, l1, k1, k1', hb1⟩
    obtain rfl : n1 = n := by rw [← l1]; exact LA.out
    have B1 := bvia (show Below w.heap.size w _ by go_grown) hb1
    have R1 := Lib.hid r1; clear r1
    clear K0 hb1 C1 l1
    have hG0 : Has (w1.alloc (.cells (madeCells #[.int .i64 0] 16) 3)) w1.heap.size 3 ((shareTo la 0).map vInt) := Has.new (by rw [made_rep]; simp [shareTo])
    have HG0 := Lib.hid hG0; clear hG0
    go_wp2
    go_loopw [9] (fun i wr => ∃ j : Nat, j ≤ n1 ∧ i = .int .i64 (j : Int) ∧ Hid (Has wr w1.heap.size 3 ((shareTo la j).map vInt)) ∧ Below w1.heap.size w1 wr) (fun i _ => n1 - (intOf i).toNat)
    case atStart => exact ⟨0, Nat.zero_le _, rfl, HG0, by go_grown⟩
    case round =>
      clear HG0 hmk
      obtain ⟨j, hj, rfl, HG, hb⟩ := hrel
      obtain ⟨wo, rfl⟩ : ∃ wo : World, wo = wr := ⟨_, rfl⟩
      have qg := HG.out.lt
      by_cases hlt : j < n1
      · obtain ⟨x, hx⟩ := get_of_lt (l := la) (k := j) (by rw [LA.out]; exact hlt)
        obtain ⟨h0, h1⟩ := HOV.out x (mem_of_get hx)
        obtain ⟨i, rfl⟩ := Int.eq_ofNat_of_zero_le h0
        have hi : i < 16 := by omega
        have hi' : (i : Int) < 16 := h1
        obtain ⟨ba, oa, rfl, hba, c0⟩ := R1.out _ _ hx
        have e0 := (hb.cell (p := ⟨ba, oa + j, none⟩) hba).trans c0
        obtain ⟨y, hy⟩ := get_of_lt (l := shareTo la j) (k := i) (by rw [shareTo_len]; exact hi)
        have hyb := shareTo_le la j y (mem_of_get hy)
        have iw : IntKind.i64.wrap (y + 1) = y + 1 := IntWalk.i64_in _ (by omega)
        have g0 : wo.cell? ⟨w1.heap.size, i, none⟩ = some (.int .i64 y) := (HG.out.cell i).trans (by rw [List.getElem?_map, hy]; rfl)
        have f0 := HG.out.free i
        have jn : (j : Int) < (n1 : Int) := by omega
        have HS : Hid (shareTo la (j + 1) = (shareTo la j).set i (y + 1)) := shareTo_succ hx hy
        clear hx hy c0
        go_wp2
        go_roundw
        case rel =>
          have h3 := HG.out.set i (.int .i64 (y + 1))
          refine ⟨j + 1, by omega, by go_num, Lib.hid ?_, hb.setCell (by simp) _⟩
          rw [HS.out, List.map_set]; exact h3
        case measure => first | (simp [intOf]; done) | (simp [intOf]; omega)
      · obtain rfl : j = n1 := by omega
        go_wp2
        go_ret2
        exact ⟨some ⟨w1.heap.size, 0, none⟩, 16, 16, rfl, rdI_hasT HG.out, shareTo_len _ _, Nat.le_refl _, by omega, bvia B1 hb⟩
  · have hR1 : seenR t xs ps ds = [] := by unfold seenR; rw [if_neg hE]
    have hR3 : shareR t xs ps ds = [] := by unfold shareR; rw [if_neg hE]
    rw [hR1] at C1
    rw [hR3]
    generalize chkE t xs ps ds = r at *
    have hr : (r != 0) = true := by simpa using hE
    clear hE hR1 hR3
    go_enter Try.func36, Try.ntmps36
    go_wp2_with fail
    refine (C1.out _ (by go_grown)).mono ?_
    rintro e w1 ⟨A1, n1, c1, rfl, r1, l1, k1, k1', hb1⟩
    have B1 := bvia (show Below w.heap.size w _ by go_grown) hb1
    clear K0 hb1 r1
    go_wp2
    go_ret2
    exact ⟨none, 0, 0, rfl, Rd1.nil _ _ _ _, rfl, Nat.le_refl _, by omega, B1⟩
end Go.Proofs.Ytnijfkidgndbdaa
