/-
  Contracts of chapter 21: the document's Shows and Least.
-/
import Derived.Test.YtnijfkidgndbdaaLst
import Derived.Test.YtnijfkidgndbdaaRep
namespace Go.Proofs.Ytnijfkidgndbdaa
open Go.RowKit
theorem own_base {w : World} {base base' : Nat} {e : TypeId} {size n : Nat} {v : Value} {xs : List Value} (h : w.ownsRow base e size v n xs) (hb : base' ≤ base) : w.ownsRow base' e size v n xs :=
  ⟨h.1, h.2.imp id (fun ⟨g, cap, cur, h1, h2, h3⟩ => ⟨g, cap, cur, h1, Nat.le_trans hb h2, h3⟩)⟩
/-- an ending: a row of the call's own, and an error -/
def RetOE (xs : List Int) (err : Int) (w : World) (e : Ending) (w' : World) : Prop := ∃ A n c, e = .returned (.tuple #[.slice A n c, .int .i64 err]) ∧ w'.ownsRow w.heap.size 3 1 (.slice A n c) n (xs.map vInt) ∧ xs.length = n ∧ Below w.heap.size w w'
theorem RetOE.ie {xs : List Int} {err : Int} {w w' : World} {e : Ending} (h : RetOE xs err w e w') : RetIE xs err w e w' := by
  obtain ⟨A, n, c, h1, h2, h3, h4⟩ := h
  have hc := own_caps h2
  exact ⟨A, n, c, h1, own_rd1 h2, h3, hc.1, hc.2, h4⟩
def showE (t : Int) (xs ps : List Q4) (th : Int) : Int := if ckE t xs ps = 0 then (if 0 ≤ th ∧ th < t then 0 else 2) else ckE t xs ps
def showR (t : Int) (xs ps : List Q4) (th : Int) : List Int := if showE t xs ps th = 0 then showsTo xs th xs.length else []
set_option maxRecDepth 100000 in
set_option maxHeartbeats 1000000 in
theorem shows33 (t : Int) (A B : Option Addr) (n c m d : Nat) (th : Int) (xs ps : List Q4) (w : World) (hn : n ≤ 9223372036854775807) (hm : m ≤ 9223372036854775807) (hx : RdQ w w.heap.size A xs) (hp : RdQ w w.heap.size B ps)
    (hl : xs.length = n) (hl' : ps.length = m) (ht0 : -9223372036854775808 ≤ t) :
    Calls Try.prog 33 #[vCloth t A n c B m d, .int .i64 th] w (RetOE (showR t xs ps th) (showE t xs ps th) w) := by
  have HX := Lib.hid hx
  have C1 := Lib.hid (fun (W : World) (hb : Below w.heap.size w W) => check17 t A B n c m d xs ps W hn hm (hx.up hb) (hp.up hb) hl hl' ht0)
  clear hx hp
  have HL := Lib.hid hl; clear hl
  have K0 : Has (w.alloc (.cells #[.int .i64 t, .slice A n c, .slice B m d] 25)) w.heap.size 25 [.int .i64 t, .slice A n c, .slice B m d] := Has.new rfl
  by_cases hE : ckE t xs ps = 0
  · have hn2 : n ≤ 20000 := by have := (ckE_ok hE).2.2.1; rw [HL.out] at this; exact this
    rw [hE] at C1
    by_cases h0 : th < 0
    · have e1 : showE t xs ps th = 2 := by unfold showE; rw [if_pos hE, if_neg (by omega)]
      have e2 : showR t xs ps th = [] := by unfold showR; rw [e1]; rfl
      rw [e1, e2]
      have d0 : decide (th < 0) = true := decide_eq_true h0
      clear e1 e2 h0 hE
      go_enter Try.func33, Try.ntmps33
      go_wp2_with fail
      refine (C1.out _ (by go_grown)).mono ?_
      rintro e w1 ⟨rfl, hb1⟩
      have B1 := bvia (show Below w.heap.size w _ by go_grown) hb1
      have HC := Lib.hid (K0.below hb1 K0.lt)
      have a0 : w1.cell? ⟨w.heap.size, 0, none⟩ = some (.int .i64 t) := HC.out.cell 0
      have a1 : w1.cell? ⟨w.heap.size, 1, none⟩ = some (.slice A n c) := HC.out.cell 1
      have q := HC.out.lt
      clear K0 hb1 C1
      go_wp2
      go_ret2
      exact ⟨none, 0, 0, rfl, World.ownsRow_nil _ _ _ _, rfl, B1⟩
    · have d0 : decide (th < 0) = false := decide_eq_false h0
      by_cases h1 : t ≤ th
      · have e1 : showE t xs ps th = 2 := by unfold showE; rw [if_pos hE, if_neg (by omega)]
        have e2 : showR t xs ps th = [] := by unfold showR; rw [e1]; rfl
        rw [e1, e2]
        have d1 : decide (t ≤ th) = true := decide_eq_true h1
        clear e1 e2 h0 h1 hE
        go_enter Try.func33, Try.ntmps33
        go_wp2_with fail
        refine (C1.out _ (by go_grown)).mono ?_
        rintro e w1 ⟨rfl, hb1⟩
        have B1 := bvia (show Below w.heap.size w _ by go_grown) hb1
        have HC := Lib.hid (K0.below hb1 K0.lt)
        have a0 : w1.cell? ⟨w.heap.size, 0, none⟩ = some (.int .i64 t) := HC.out.cell 0
        have a1 : w1.cell? ⟨w.heap.size, 1, none⟩ = some (.slice A n c) := HC.out.cell 1
        have q := HC.out.lt
        clear K0 hb1 C1
        go_wp2
        go_ret2
        exact ⟨none, 0, 0, rfl, World.ownsRow_nil _ _ _ _, rfl, B1⟩
      · have e1 : showE t xs ps th = 0 := by unfold showE; rw [if_pos hE, if_pos (by omega)]
        have e2 : showR t xs ps th = showsTo xs th xs.length := by unfold showR; rw [e1]; rfl
        rw [e1, e2]
        have d1 : decide (t ≤ th) = false := decide_eq_false h1
        clear e1 e2 h0 h1 hE
        go_enter Try.func33, Try.ntmps33
        go_wp2_with fail
        refine (C1.out _ (by go_grown)).mono ?_
        rintro e w1 ⟨rfl, hb1⟩
        have B1 := bvia (show Below w.heap.size w _ by go_grown) hb1
        have HC := Lib.hid (K0.below hb1 K0.lt)
        have a0 : w1.cell? ⟨w.heap.size, 0, none⟩ = some (.int .i64 t) := HC.out.cell 0
        have a1 : w1.cell? ⟨w.heap.size, 1, none⟩ = some (.slice A n c) := HC.out.cell 1
        have q := HC.out.lt
        clear K0 hb1 C1
        go_wp2
        go_loopw [7, 8] (fun v i wr => ∃ (j l : Nat) (A' : Option Addr) (c' : Nat), j ≤ n ∧ l ≤ j ∧ i = .int .i64 (j : Int) ∧ v = .slice A' l c' ∧ (showsTo xs th j).length = l ∧ wr.ownsRow w1.heap.size 3 1 v l ((showsTo xs th j).map vInt) ∧ Below w1.heap.size w1 wr) (fun _ i _ => n - (intOf i).toNat)
        case atStart => exact ⟨0, 0, none, 0, Nat.zero_le _, Nat.le_refl _, rfl, rfl, rfl, World.ownsRow_nil _ _ _ _, Below.refl _ _⟩
        case round =>
          clear a0 a1 q
          obtain ⟨j, l, A', c', hj, hlj, rfl, rfl, hll, hown, hb⟩ := hrel
          obtain ⟨wo, rfl⟩ : ∃ wo : World, wo = wr := ⟨_, rfl⟩
          have HO' := Lib.hid hown; clear hown
          have HLL := Lib.hid hll; clear hll
          have hz := hb.size
          have hh := HC.out.below hb HC.out.lt
          have a1 : wo.cell? ⟨w.heap.size, 1, none⟩ = some (.slice A n c) := hh.cell 1
          have q := hh.lt
          clear hh
          by_cases hlt : j < n
          · obtain ⟨x, hx⟩ := get_of_lt (l := xs) (k := j) (by rw [HL.out]; exact hlt)
            obtain ⟨ba, o, rfl, hba, c0, c1, c2, c3⟩ := (HX.out.below (B' := w.heap.size) (bvia' B1 (Nat.le_refl _) hb) (Nat.le_refl _)) _ x hx
            have HXk := Lib.hid hx; clear hx
            by_cases hc : x.c = th
            · have hcd : (x.c == th) = true := by simpa using hc
              have HS : Hid (showsTo xs th (j + 1) = showsTo xs th j ++ [(j : Int)]) := by
                show showsTo xs th (j + 1) = _
                rw [showsTo_succ HXk.out, if_pos hc]
              clear hc
              go_wp2_with (at_builtin; refine wpList_app rfl (.tmp 41) (.tmp 43) _ rfl w1.heap.size 3 (.int .i64 0) 1 8 Try.underlying26 infoInt rfl (by omega) (by omega) _ _ _ rfl (HO'.out.alloc _) wo.heap.size [vInt (j : Int)] rfl rfl (news_new _ _ _) (one_int _ _) (by omega) (by simp; omega) ?_; intro ga cap1 w2 hg1 hown1 hgrow1 hor1)
              go_roundw
              case rel => exact ⟨j + 1, l + 1, some ⟨ga, 0, none⟩, cap1, by omega, by omega, by go_num, rfl, by rw [HS.out, List.length_append, HLL.out]; rfl, by rw [HS.out]; simpa using hown1, (hb.alloc hz _).grown hgrow1 (by simp; omega) (fun kk hk => (HO'.out.lt kk hk).1)⟩
              case measure => first | (simp [intOf]; done) | (simp [intOf]; omega)
            · have hcd : (x.c == th) = false := by simpa using hc
              have HS : Hid (showsTo xs th (j + 1) = showsTo xs th j) := by
                show showsTo xs th (j + 1) = _
                rw [showsTo_succ HXk.out, if_neg hc]
              clear hc
              go_wp2
              go_roundw
              case rel => exact ⟨j + 1, l, A', c', by omega, by omega, by go_num, rfl, by rw [HS.out, HLL.out], by rw [HS.out]; exact HO'.out, hb⟩
              case measure => first | (simp [intOf]; done) | (simp [intOf]; omega)
          · obtain rfl : j = n := by omega
            go_wp2
            go_ret2
            exact ⟨A', l, c', rfl, by rw [HL.out]; exact own_base HO'.out B1.size, by rw [HL.out, HLL.out], bvia B1 hb⟩
  · have e1 : showE t xs ps th = ckE t xs ps := by unfold showE; rw [if_neg hE]
    have e2 : showR t xs ps th = [] := by unfold showR; rw [e1, if_neg hE]
    rw [e1, e2]
    generalize ckE t xs ps = r at *
    have hr : (r != 0) = true := by simpa using hE
    have hr' : (r == 0) = false := by simpa using hE
    clear hE e1 e2
    go_enter Try.func33, Try.ntmps33
    go_wp2_with fail
    refine (C1.out _ (by go_grown)).mono ?_
    rintro e w1 ⟨rfl, hb1⟩
    have B1 := bvia (show Below w.heap.size w _ by go_grown) hb1
    have HC := Lib.hid (K0.below hb1 K0.lt)
    have a0 : w1.cell? ⟨w.heap.size, 0, none⟩ = some (.int .i64 t) := HC.out.cell 0
    have a1 : w1.cell? ⟨w.heap.size, 1, none⟩ = some (.slice A n c) := HC.out.cell 1
    have q := HC.out.lt
    clear K0 hb1 C1
    go_wp2
    go_ret2
    exact ⟨none, 0, 0, rfl, World.ownsRow_nil _ _ _ _, rfl, B1⟩
end Go.Proofs.Ytnijfkidgndbdaa
