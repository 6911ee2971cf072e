/-
  Contracts of torchonref04: Check, Touch, Same, SameInts.
-/
import Derived.Test.YtpljaoagiaijiaaR03
namespace Go.Proofs.Ytpljaoagiaijiaa
open Go.RowKit
set_option maxHeartbeats 1000000 in
theorem check04 (p : Int) (A : Option Addr) (n c : Nat) (ws : List Wk) (w : World) (hn : n ≤ 9223372036854775807) (hw : RdW w w.heap.size A ws) (hl : ws.length = n)
    (hs : ∀ x ∈ ws, x.word.size ≤ 9223372036854775807) :
    Calls Try.prog 14 #[.agg #[.int .i64 p, .slice A n c]] w fun e w' => e = .returned (.int .i64 (schk p ws)) ∧ Below w.heap.size w w' := by
  have HW := Lib.hid hw; clear hw
  have HL := Lib.hid hl; clear hl
  have HS := Lib.hid hs; clear hs
  by_cases hp : 24 < p
  · go_enter Try.func14, Try.ntmps14
    go_wp2
    go_ret
    exact ⟨ret_int (schk_long (.inl hp)).symm, by go_grown⟩
  by_cases hn4 : 400 < n
  · go_enter Try.func14, Try.ntmps14
    go_wp2
    go_ret
    exact ⟨ret_int (schk_long (.inr (.inl (by rw [HL.out]; exact hn4)))).symm, by go_grown⟩
  have hp' : p ≤ 24 := by omega
  have hn4' : n ≤ 400 := by omega
  clear hp hn4
  go_enter Try.func14, Try.ntmps14
  go_wp2
  go_loop [3] (fun i => ∃ k : Nat, k ≤ n ∧ i = .int .i64 k ∧ ∀ (j : Nat) (x : Wk), j < k → ws[j]? = some x → x.word.size ≤ 16) (fun i => n - (intOf i).toNat)
  case atStart => exact ⟨0, Nat.zero_le _, rfl, fun j _ hj => absurd hj (by omega)⟩
  case round =>
    obtain ⟨k, hk, rfl, hno⟩ := hrel
    have H := Lib.hid hno; clear hno
    by_cases hlt : k < n
    · obtain ⟨x, hx⟩ := get_of_lt (l := ws) (k := k) (by rw [HL.out]; exact hlt)
      obtain ⟨b, o, rfl, hb, c1, c2, c3⟩ := HW.out k x hx
      have hsx := HS.out x (mem_of_get hx)
      have HX := Lib.hid hx; clear hx
      by_cases h16 : 16 < x.word.size
      · go_wp2
        go_ret
        exact ⟨ret_int (schk_long (.inr (.inr ⟨k, x, HX.out, h16⟩))).symm, by go_grown⟩
      · go_wp2
        go_round
        case rel => exact ⟨k + 1, by omega, by go_num, fun j y hj hy => by
          rcases Nat.lt_or_ge j k with h | h
          · exact H.out j y h hy
          · obtain rfl : j = k := by omega
            rw [HX.out] at hy
            obtain rfl := Option.some.inj hy
            omega⟩
        case measure => simp [intOf]; omega
    · have H16 : Hid (∀ (j : Nat) (x : Wk), ws[j]? = some x → x.word.size ≤ 16) := fun j x hx => H.out j x (by have := lt_of_get hx; rw [HL.out] at this; omega) hx
      clear H
      by_cases h2 : p < 2
      · go_wp2
        go_ret
        exact ⟨ret_int (schk_arg hp' (by rw [HL.out]; exact hn4') H16.out (.inl h2)).symm, by go_grown⟩
      have h2' : 2 ≤ p := by omega
      clear h2
      go_wp2
      go_loopw [4, 5] (fun i _ wr => ∃ k : Nat, k ≤ n ∧ i = .int .i64 k ∧ Below w.heap.size w wr ∧ wr.cell? ⟨w.heap.size, 0, none⟩ = some (.int .i64 p) ∧ wr.cell? ⟨w.heap.size, 1, none⟩ = some (.slice A n c) ∧ w.heap.size < wr.heap.size ∧ (∀ (j : Nat) (x : Wk), j < k → ws[j]? = some x → wkBad p x = false)) (fun i _ _ => n - (intOf i).toNat)
      case atStart => exact ⟨0, Nat.zero_le _, rfl, by go_grown, by go_simp, by go_simp, by go_grown, fun j _ hj => absurd hj (by omega)⟩
      case round =>
        obtain ⟨k, hk, rfl, hbw, d0, d1, hz, hno⟩ := hrel
        have H := Lib.hid hno; clear hno
        by_cases hlt : k < n
        · obtain ⟨x, hx⟩ := get_of_lt (l := ws) (k := k) (by rw [HL.out]; exact hlt)
          obtain ⟨b, o, rfl, hb, c1, c2, c3⟩ := (HW.out.below hbw (Nat.le_refl _)) k x hx
          have HX := Lib.hid hx; clear hx
          go_wp2
          all_goals first
            | (go_roundw
               case rel => exact ⟨k + 1, by omega, by go_num, by go_grown, by go_simp, by go_simp, by go_grown, get_step H.out HX.out (wkGood_of (by first | exact .inl ‹_› | exact .inr ⟨‹_›, ‹_›⟩) ‹_› ‹_›)⟩
               case measure => simp [intOf]; omega)
            | (go_ret
               exact ⟨ret_int (schk_arg hp' (by rw [HL.out]; exact hn4') H16.out (.inr ⟨k, x, HX.out, wkBad_of (by first | exact .inl ⟨‹_›, ‹_›⟩ | exact .inr (.inl ‹_›) | exact .inr (.inr (.inl ‹_›)) | exact .inr (.inr (.inr ⟨‹_›, ‹_›⟩)))⟩)).symm, by go_grown⟩)
        · have HB : Hid (∀ (j : Nat) (x : Wk), ws[j]? = some x → wkBad p x = false) := get_all H.out (by rw [HL.out]; omega)
          clear H
          go_wp2
          go_loopw [6] (fun i wr => ∃ k : Nat, k ≤ n ∧ i = .int .i64 k ∧ Below w.heap.size w wr ∧ wr.cell? ⟨w.heap.size, 0, none⟩ = some (.int .i64 p) ∧ wr.cell? ⟨w.heap.size, 1, none⟩ = some (.slice A n c) ∧ w.heap.size < wr.heap.size ∧ (∀ (j : Nat) (x : Wk), j < k → ws[j]? = some x → wOk x.word = true)) (fun i _ => n - (intOf i).toNat)
          case atStart => exact ⟨0, Nat.zero_le _, rfl, hbw, d0, d1, hz, fun j _ hj => absurd hj (by omega)⟩
          case round =>
            clear hbw d0 d1 hz
            obtain ⟨k, hk, rfl, hbw, d0, d1, hz, hno⟩ := hrel
            have H := Lib.hid hno; clear hno
            by_cases hlt : k < n
            · obtain ⟨x, hx⟩ := get_of_lt (l := ws) (k := k) (by rw [HL.out]; exact hlt)
              obtain ⟨b, o, rfl, hb, c1, c2, c3⟩ := (HW.out.below hbw (Nat.le_refl _)) k x hx
              have hsx := HS.out x (mem_of_get hx)
              have h16 := H16.out k x hx
              have HX := Lib.hid hx; clear hx
              by_cases hwx : wOk x.word = true
              · have hc0 := Lib.hid (wchk_ok h16 hwx)
                have hwx' := Lib.hid hwx; clear hwx
                go_wp2_with (go_at_call 43; refine (check03 _ _ hsx).mono ?_; rintro e w' ⟨rfl, rfl⟩; rw [hc0.out])
                go_roundw
                case rel => exact ⟨k + 1, by omega, by go_num, hbw, d0, d1, hz, get_step H.out HX.out hwx'.out⟩
                case measure => simp [intOf]; omega
              · have hwx2 : wOk x.word = false := by simpa using hwx
                have hc0 := Lib.hid (wchk_bad h16 hwx2)
                clear hwx
                have hwx' := Lib.hid hwx2; clear hwx2
                go_wp2_with (go_at_call 43; refine (check03 _ _ hsx).mono ?_; rintro e w' ⟨rfl, rfl⟩; rw [hc0.out])
                go_ret
                exact ⟨ret_int (schk_bad hp' (by rw [HL.out]; exact hn4') H16.out h2' HB.out ⟨k, x, HX.out, hwx'.out⟩).symm, hbw⟩
            · go_wp2
              go_ret
              exact ⟨ret_int (schk_ok hp' (by rw [HL.out]; exact hn4') H16.out h2' HB.out (get_all H.out (by rw [HL.out]; omega))).symm, hbw⟩
end Go.Proofs.Ytpljaoagiaijiaa
