/-
  Contracts of chapter 17: slices.Contains, the threads that are asked for.
-/
import Derived.Test.YtpljaoagiaijiaaCkp
namespace Go.Proofs.Ytpljaoagiaijiaa
open Go.RowKit
/-- a thread of the cloth -/
def inT (t n : Int) : Bool := decide (0 ≤ n) && decide (n ≤ t - 1)
/-- are the first k of some threads threads of the cloth, each but once? -/
def thTo (t : Int) (ths : List Int) : Nat → Bool
  | 0 => true
  | k + 1 => thTo t ths k && (match ths[k]? with | some x => inT t x && !(ths.take k).contains x | none => true)
def askE (t : Int) (xs ps : List Q4) (ths : List Int) : Int := if ckE t xs ps = 0 then (if thTo t ths ths.length = true then 0 else 2) else ckE t xs ps
theorem thTo_succ {t : Int} {ths : List Int} {k : Nat} {x : Int} (h : ths[k]? = some x) : thTo t ths (k + 1) = (thTo t ths k && (inT t x && !(ths.take k).contains x)) := by
  show (thTo t ths k && (match ths[k]? with | some x => inT t x && !(ths.take k).contains x | none => true)) = _
  rw [h]
theorem thTo_no {t : Int} {ths : List Int} {k : Nat} (h : thTo t ths k = false) : ∀ d, thTo t ths (k + d) = false
  | 0 => h
  | d + 1 => by
    have := thTo_no h d
    show (thTo t ths (k + d) && _) = false
    rw [this]; rfl
theorem thTo_bad {t : Int} {ths : List Int} {k : Nat} (h : thTo t ths k = false) (hk : k ≤ ths.length) : thTo t ths ths.length = false := by
  obtain ⟨d, hd⟩ : ∃ d, ths.length = k + d := ⟨ths.length - k, by omega⟩
  rw [hd]; exact thTo_no h d
theorem has_step {l : List Int} {k : Nat} {x v : Int} (hx : l[k]? = some x) : (l.take (k + 1)).contains v = ((l.take k).contains v || (v == x)) := by
  rw [List.take_add_one, hx]
  rw [Bool.eq_iff_iff]
  simp
theorem has_yes {l : List Int} {k : Nat} {x v : Int} (hx : l[k]? = some x) (h : v = x) : l.contains v = true := by
  rw [List.contains_iff_mem, h]; exact mem_of_get hx
set_option maxRecDepth 100000 in
theorem index74 (A : Option Addr) (n c : Nat) (v : Int) (D : List Int) (w : World) (hn : n ≤ 9223372036854775807) (hx : RdI w w.heap.size A D) (hl : D.length = n) :
    Calls Try.prog 74 #[.slice A n c, .int .i64 v] w fun e w' => (∃ r : Int, e = .returned (.int .i64 r) ∧ decide (0 ≤ r) = D.contains v) ∧ w' = w := by
  have HX := Lib.hid hx; clear hx
  have HL := Lib.hid hl; clear hl
  go_enter Try.func74, Try.ntmps74
  go_wp2
  go_loopw [8] (fun i wr => ∃ k : Nat, k ≤ n ∧ i = .int .i64 (k : Int) ∧ Hid ((D.take k).contains v = false) ∧ wr = w) (fun i _ => n - (intOf i).toNat)
  case atStart => exact ⟨0, Nat.zero_le _, rfl, Lib.hid rfl, rfl⟩
  case round =>
    obtain ⟨k, hk, rfl, HA, rfl⟩ := hrel
    obtain ⟨wo, rfl⟩ : ∃ wo : World, wo = wr := ⟨_, rfl⟩
    by_cases hlt : k < n
    · obtain ⟨x, hx⟩ := get_of_lt (l := D) (k := k) (by rw [HL.out]; exact hlt)
      obtain ⟨ba, o, rfl, hba, c0⟩ := HX.out _ x hx
      have HXk := Lib.hid hx; clear hx
      by_cases he : v = x
      · have hd : (v == x) = true := by simpa using he
        have HE := Lib.hid he; clear he
        go_wp2
        go_ret
        exact ⟨⟨k, rfl, by rw [has_yes HXk.out HE.out]; simp⟩, rfl⟩
      · have hd : (v == x) = false := by simpa using he
        have HS : Hid ((D.take (k + 1)).contains v = false) := by
          show (D.take (k + 1)).contains v = false
          rw [has_step HXk.out, HA.out, hd]; rfl
        clear he
        go_wp2
        go_roundw
        case rel => exact ⟨k + 1, by omega, by go_num, HS, by first | rfl | trivial⟩
        case measure => first | (simp [intOf]; done) | (simp [intOf]; omega)
    · obtain rfl : n = k := by omega
      have HB : Hid (D.contains v = false) := by
        have := HA.out
        rw [List.take_of_length_le (by rw [HL.out]; exact Nat.le_refl _)] at this; exact this
      go_wp2
      go_ret
      exact ⟨⟨-1, rfl, by rw [HB.out]; rfl⟩, rfl⟩
set_option maxRecDepth 100000 in
theorem contains66 (A : Option Addr) (n c : Nat) (v : Int) (D : List Int) (w : World) (hn : n ≤ 9223372036854775807) (hx : RdI w w.heap.size A D) (hl : D.length = n) :
    Calls Try.prog 66 #[.slice A n c, .int .i64 v] w fun e w' => e = .returned (.bool (D.contains v)) ∧ w' = w := by
  have C := Lib.hid (index74 A n c v D w hn hx hl); clear hx
  go_enter Try.func66, Try.ntmps66
  go_wp2_with fail
  refine C.out.mono ?_
  rintro e w' ⟨⟨r, rfl, hr⟩, rfl⟩
  have HR := Lib.hid hr; clear hr
  go_wp2
  go_ret
  exact ⟨ret_bool HR.out, rfl⟩
theorem rdI_take {w : World} {B k : Nat} {A : Option Addr} {D : List Int} (h : RdI w B A D) : RdI w B A (D.take k) := fun j x hx => by
  have hj := lt_of_get hx
  rw [List.length_take] at hj
  rw [List.getElem?_take_of_lt (by omega)] at hx
  exact h j x hx
set_option maxRecDepth 100000 in
set_option maxHeartbeats 2000000 in
theorem asked50 (t : Int) (A B T : Option Addr) (n c m d k e : Nat) (xs ps : List Q4) (ths : List Int) (w : World) (hn : n ≤ 9223372036854775807) (hm : m ≤ 9223372036854775807) (hke : k ≤ e) (he : e ≤ 9223372036854775807) (hx : RdQ w w.heap.size A xs) (hp : RdQ w w.heap.size B ps) (hth : RdI w w.heap.size T ths)
    (hl : xs.length = n) (hl' : ps.length = m) (hlt : ths.length = k) (ht0 : -9223372036854775808 ≤ t) :
    Calls Try.prog 50 #[vCloth t A n c B m d, .slice T k e] w fun e w' => e = .returned (.int .i64 (askE t xs ps ths)) ∧ Below w.heap.size w w' := by
  have C1 := Lib.hid (fun (W : World) (hb : Below w.heap.size w W) => check42 t A B n c m d xs ps W hn hm (hx.up hb) (hp.up hb) hl hl' ht0)
  have HT := Lib.hid hth; have HL := Lib.hid hlt
  clear hx hp hth hlt
  have K0 : Has (w.alloc (.cells #[.int .i64 t, .slice A n c, .slice B m d] 30)) w.heap.size 30 [.int .i64 t, .slice A n c, .slice B m d] := Has.new rfl
  by_cases hE : ckE t xs ps = 0
  · have h1 := (ckE_ok hE).1
    have h2 := (ckE_ok hE).2.1
    have hA : Hid (askE t xs ps ths = if thTo t ths ths.length = true then 0 else 2) := by show askE t xs ps ths = _; unfold askE; rw [if_pos hE]
    rw [hE] at C1
    clear hE
    have iw : IntKind.i64.wrap (t - 1) = t - 1 := IntWalk.i64_in _ (by omega)
    go_enter Try.func50, Try.ntmps50
    go_wp2_with fail
    refine (C1.out _ (by go_grown)).mono ?_
    rintro e' w1 ⟨rfl, hb1⟩
    have B1 := bvia (show Below w.heap.size w _ by go_grown) hb1
    have HC := Lib.hid (K0.below hb1 K0.lt)
    have a0 : w1.cell? ⟨w.heap.size, 0, none⟩ = some (.int .i64 t) := HC.out.cell 0
    have q := HC.out.lt
    have HT1 := Lib.hid (HT.out.up B1)
    clear K0 hb1 C1
    go_wp2
    go_loopw [15] (fun i wr => ∃ j : Nat, j ≤ k ∧ i = .int .i64 (j : Int) ∧ Hid (thTo t ths j = true) ∧ wr = w1) (fun i _ => k - (intOf i).toNat)
    case atStart => exact ⟨0, Nat.zero_le _, rfl, Lib.hid rfl, rfl⟩
    case round =>
      obtain ⟨j, hj, rfl, HA, rfl⟩ := hrel
      obtain ⟨wo, rfl⟩ : ∃ wo : World, wo = wr := ⟨_, rfl⟩
      by_cases hlt : j < k
      · obtain ⟨x, hx⟩ := get_of_lt (l := ths) (k := j) (by rw [HL.out]; exact hlt)
        have J := Lib.hid (contains66 T j e x (ths.take j) wo (by omega) (rdI_take HT1.out) (by rw [List.length_take, HL.out]; omega))
        obtain ⟨ba, o, hTT, hba, c0⟩ := HT1.out _ x hx
        have HXk := Lib.hid hx; clear hx
        have jn : (j : Int) < (k : Int) := by omega
        have jk : (j : Int) ≤ (k : Int) := by omega
        have je : (j : Int) ≤ (e : Int) := by omega
        have je' : j ≤ e := by omega
        have jk' : j ≤ k := by omega
        have D := Lib.hid (in56 x 0 (t - 1) (inT t x) wo rfl)
        cases hi : inT t x with
        | false =>
          rw [hi] at D
          have HB : Hid (askE t xs ps ths = 2) := by
            show askE t xs ps ths = 2
            rw [hA.out, if_neg]
            rw [thTo_bad (k := j + 1) (by rw [thTo_succ HXk.out, hi]; simp) (by rw [HL.out]; omega)]; simp
          clear hi
          subst hTT
          go_wp2_with fail
          refine D.out.mono ?_
          rintro e' w2 ⟨rfl, rfl⟩
          go_wp2
          go_ret
          exact ⟨by rw [HB.out]; rfl, B1⟩
        | true =>
          rw [hi] at D
          have HI := Lib.hid hi; clear hi
          cases hcn : (ths.take j).contains x with
          | true =>
            rw [hcn] at J
            have HB : Hid (askE t xs ps ths = 2) := by
              show askE t xs ps ths = 2
              rw [hA.out, if_neg]
              rw [thTo_bad (k := j + 1) (by rw [thTo_succ HXk.out, hcn]; simp) (by rw [HL.out]; omega)]; simp
            clear hcn
            subst hTT
            go_wp2_with fail
            refine D.out.mono ?_
            rintro e' w2 ⟨rfl, rfl⟩
            go_wp2_with fail
            refine J.out.mono ?_
            rintro e' w2 ⟨rfl, rfl⟩
            go_wp2
            go_ret
            exact ⟨by rw [HB.out]; rfl, B1⟩
          | false =>
            rw [hcn] at J
            have HS : Hid (thTo t ths (j + 1) = true) := by
              show thTo t ths (j + 1) = true
              rw [thTo_succ HXk.out, HA.out, HI.out, hcn]; rfl
            clear hcn
            subst hTT
            go_wp2_with fail
            refine D.out.mono ?_
            rintro e' w2 ⟨rfl, rfl⟩
            go_wp2_with fail
            refine J.out.mono ?_
            rintro e' w2 ⟨rfl, rfl⟩
            go_wp2
            go_roundw
            case rel => exact ⟨j + 1, by omega, by go_num, HS, by first | rfl | trivial⟩
            case measure => first | (simp [intOf]; done) | (simp [intOf]; omega)
      · obtain rfl : k = j := by omega
        have HB : Hid (askE t xs ps ths = 0) := by
          show askE t xs ps ths = 0
          rw [hA.out, if_pos (by rw [HL.out]; exact HA.out)]
        go_wp2
        go_ret
        exact ⟨by rw [HB.out]; rfl, B1⟩
  · have e1 : askE t xs ps ths = ckE t xs ps := by unfold askE; rw [if_neg hE]
    rw [e1]
    generalize ckE t xs ps = r at *
    have hr : (r != 0) = true := by simpa using hE
    clear hE e1
    go_enter Try.func50, Try.ntmps50
    go_wp2_with fail
    refine (C1.out _ (by go_grown)).mono ?_
    rintro e' w1 ⟨rfl, hb1⟩
    have B1 := bvia (show Below w.heap.size w _ by go_grown) hb1
    clear K0 hb1 C1
    go_wp2
    go_ret
    exact ⟨rfl, B1⟩
end Go.Proofs.Ytpljaoagiaijiaa
