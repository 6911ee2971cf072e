/-
  Contracts of chapter 21: colours and clothes checked.
-/
import Derived.Test.YtnijfkidgndbdaaChk
import Derived.Test.YtnijfkidgndbdaaSi
namespace Go.Proofs.Ytnijfkidgndbdaa
open Go.RowKit
def okD (n : Int) : Bool := decide (0 ≤ n) && decide (n < 16)
def colOk (D : List Int) : Bool := D.all okD
/-- the error of a cloth and its dyes -/
def chkE (t : Int) (xs ps : List Q4) (D : List Int) : Int := if ckE t xs ps = 0 then (if (D.length : Int) = t ∧ colOk D = true then 0 else 2) else ckE t xs ps
theorem all_step' {p : Int → Bool} {l : List Int} {k : Nat} {x : Int} (hx : l[k]? = some x) : (l.take (k + 1)).all p = ((l.take k).all p && p x) := by
  rw [List.take_add_one, hx]; simp
theorem all_no {p : Int → Bool} {l : List Int} {k : Nat} {x : Int} (hx : l[k]? = some x) (h : p x = false) : l.all p = false := by
  rw [List.all_eq_false]; exact ⟨x, mem_of_get hx, by rw [h]; simp⟩
set_option maxRecDepth 100000 in
theorem colour45 (A : Option Addr) (n c : Nat) (D : List Int) (w : World) (hn : n ≤ 9223372036854775807) (hx : RdI w w.heap.size A D) (hl : D.length = n) :
    Calls Try.prog 45 #[.slice A n c] w fun e w' => e = .returned (.bool (colOk D)) ∧ w' = w := by
  have HX := Lib.hid hx; clear hx
  have HL := Lib.hid hl; clear hl
  go_enter Try.func45, Try.ntmps45
  go_wp2
  go_loopw [3] (fun i wr => ∃ k : Nat, k ≤ n ∧ i = .int .i64 (k : Int) ∧ (D.take k).all okD = true ∧ wr = w) (fun i _ => n - (intOf i).toNat)
  case atStart => exact ⟨0, Nat.zero_le _, rfl, rfl, rfl⟩
  case round =>
    obtain ⟨k, hk, rfl, hall, rfl⟩ := hrel
    obtain ⟨wo, rfl⟩ : ∃ wo : World, wo = wr := ⟨_, rfl⟩
    have HA := Lib.hid hall; clear hall
    by_cases hlt : k < n
    · obtain ⟨x, hx⟩ := get_of_lt (l := D) (k := k) (by rw [HL.out]; exact hlt)
      obtain ⟨ba, o, rfl, hba, c0⟩ := HX.out _ x hx
      have HXk := Lib.hid hx; clear hx
      by_cases h0 : x < 0
      · have d0 : decide (x < 0) = true := decide_eq_true h0
        have HB : Hid (okD x = false) := by show okD x = false; unfold okD; simp; omega
        clear h0
        go_wp2
        go_ret
        exact ⟨ret_bool (all_no HXk.out HB.out).symm, rfl⟩
      · have d0 : decide (x < 0) = false := decide_eq_false h0
        by_cases h1 : 16 ≤ x
        · have d1 : decide (16 ≤ x) = true := decide_eq_true h1
          have HB : Hid (okD x = false) := by show okD x = false; unfold okD; simp; omega
          clear h0 h1
          go_wp2
          go_ret
          exact ⟨ret_bool (all_no HXk.out HB.out).symm, rfl⟩
        · have d1 : decide (16 ≤ x) = false := decide_eq_false h1
          have HB : Hid (okD x = true) := by show okD x = true; unfold okD; simp; omega
          clear h0 h1
          go_wp2
          go_roundw
          case rel => exact ⟨k + 1, by omega, by go_num, by rw [all_step' HXk.out, HA.out, HB.out]; rfl, by first | rfl | trivial⟩
          case measure => first | (simp [intOf]; done) | (simp [intOf]; omega)
    · obtain rfl : k = n := by omega
      have HB : Hid (colOk D = true) := by
        show colOk D = true
        have := HA.out
        rw [List.take_of_length_le (by rw [HL.out]; exact Nat.le_refl _)] at this; exact this
      go_wp2
      go_ret
      exact ⟨ret_bool HB.out.symm, rfl⟩
set_option maxRecDepth 100000 in
theorem bad60 (x : Int) (w : World) : Calls Try.prog 60 #[.int .i64 x] w fun e w' => e = .returned (.bool (!okD x)) ∧ w' = w := by
  by_cases h0 : x < 0
  · have d0 : decide (x < 0) = true := decide_eq_true h0
    have HB : okD x = false := by unfold okD; simp; omega
    rw [HB]
    clear h0 HB
    go_enter Try.func60, Try.ntmps60
    go_wp2
    go_ret
    exact ⟨rfl, rfl⟩
  · have d0 : decide (x < 0) = false := decide_eq_false h0
    by_cases h1 : 16 ≤ x
    · have d1 : decide (16 ≤ x) = true := decide_eq_true h1
      have HB : okD x = false := by unfold okD; simp; omega
      rw [HB]
      clear h0 h1 HB
      go_enter Try.func60, Try.ntmps60
      go_wp2
      go_ret
      exact ⟨rfl, rfl⟩
    · have d1 : decide (16 ≤ x) = false := decide_eq_false h1
      have HB : okD x = true := by unfold okD; simp; omega
      rw [HB]
      clear h0 h1 HB
      go_enter Try.func60, Try.ntmps60
      go_wp2
      go_ret
      exact ⟨rfl, rfl⟩
set_option maxRecDepth 100000 in
theorem index66 (A : Option Addr) (n c : Nat) (D : List Int) (w : World) (hn : n ≤ 9223372036854775807) (hx : RdI w w.heap.size A D) (hl : D.length = n) :
    Calls Try.prog 66 #[.slice A n c, .func (.func 60) #[] #[]] w fun e w' => (∃ r : Int, e = .returned (.int .i64 r) ∧ decide (0 ≤ r) = !colOk D) ∧ w' = w := by
  have HX := Lib.hid hx; clear hx
  have HL := Lib.hid hl; clear hl
  go_enter Try.func66, Try.ntmps66
  go_wp2
  go_loopw [8] (fun i wr => ∃ k : Nat, k ≤ n ∧ i = .int .i64 (k : Int) ∧ (D.take k).all okD = true ∧ wr = w) (fun i _ => n - (intOf i).toNat)
  case atStart => exact ⟨0, Nat.zero_le _, rfl, rfl, rfl⟩
  case round =>
    obtain ⟨k, hk, rfl, hall, rfl⟩ := hrel
    obtain ⟨wo, rfl⟩ : ∃ wo : World, wo = wr := ⟨_, rfl⟩
    have HA := Lib.hid hall; clear hall
    by_cases hlt : k < n
    · obtain ⟨x, hx⟩ := get_of_lt (l := D) (k := k) (by rw [HL.out]; exact hlt)
      obtain ⟨ba, o, rfl, hba, c0⟩ := HX.out _ x hx
      have HXk := Lib.hid hx; clear hx
      cases hB : okD x with
      | false =>
        have HB := Lib.hid hB
        have C := Lib.hid (bad60 x wo)
        rw [hB] at C
        clear hB
        go_wp2_with fail
        refine C.out.mono ?_
        rintro e w' ⟨rfl, rfl⟩
        go_wp2
        go_ret
        exact ⟨⟨k, rfl, by rw [show colOk D = false from all_no HXk.out HB.out]; simp⟩, rfl⟩
      | true =>
        have HB := Lib.hid hB
        have C := Lib.hid (bad60 x wo)
        rw [hB] at C
        clear hB
        go_wp2_with fail
        refine C.out.mono ?_
        rintro e w' ⟨rfl, rfl⟩
        go_wp2
        go_roundw
        case rel => exact ⟨k + 1, by omega, by go_num, by rw [all_step' HXk.out, HA.out, HB.out]; rfl, by first | rfl | trivial⟩
        case measure => first | (simp [intOf]; done) | (simp [intOf]; omega)
    · obtain rfl : k = n := by omega
      have HB : Hid (colOk D = true) := by
        show colOk D = true
        have := HA.out
        rw [List.take_of_length_le (by rw [HL.out]; exact Nat.le_refl _)] at this; exact this
      go_wp2
      go_ret
      exact ⟨⟨-1, rfl, by rw [HB.out]; rfl⟩, rfl⟩
set_option maxRecDepth 100000 in
theorem contains59 (A : Option Addr) (n c : Nat) (D : List Int) (w : World) (hn : n ≤ 9223372036854775807) (hx : RdI w w.heap.size A D) (hl : D.length = n) :
    Calls Try.prog 59 #[.slice A n c, .func (.func 60) #[] #[]] w fun e w' => e = .returned (.bool (!colOk D)) ∧ w' = w := by
  have C := Lib.hid (index66 A n c D w hn hx hl); clear hx
  go_enter Try.func59, Try.ntmps59
  go_wp2_with fail
  refine C.out.mono ?_
  rintro e w' ⟨⟨r, rfl, hr⟩, rfl⟩
  have HR := Lib.hid hr; clear hr
  go_wp2
  go_ret
  exact ⟨ret_bool HR.out, rfl⟩
set_option maxRecDepth 100000 in
theorem bad43 (A : Option Addr) (n c : Nat) (m : Int) (D : List Int) (w : World) (hn : n ≤ 9223372036854775807) (hx : RdI w w.heap.size A D) (hl : D.length = n) :
    Calls Try.prog 43 #[.slice A n c, .int .i64 m] w fun e w' => e = .returned (.bool (!(decide ((D.length : Int) = m) && colOk D))) ∧ w' = w := by
  have C := Lib.hid (contains59 A n c D w hn hx hl); clear hx
  by_cases h : (n : Int) = m
  · have d0 : ((n : Int) != m) = false := by simp [h]
    have e : decide ((D.length : Int) = m) = true := by simp [hl, h]
    rw [e]; clear e h
    go_enter Try.func43, Try.ntmps43
    go_wp2_with fail
    refine C.out.mono ?_
    rintro e w' ⟨rfl, rfl⟩
    go_wp2
    go_ret
    exact ⟨rfl, rfl⟩
  · have d0 : ((n : Int) != m) = true := by simp [h]
    have e : decide ((D.length : Int) = m) = false := by simp [hl, h]
    rw [e]; clear e h
    go_enter Try.func43, Try.ntmps43
    go_wp2
    go_ret
    exact ⟨rfl, rfl⟩
end Go.Proofs.Ytnijfkidgndbdaa
