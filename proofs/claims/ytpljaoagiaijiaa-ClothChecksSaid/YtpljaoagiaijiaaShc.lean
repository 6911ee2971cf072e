/-
  Contract of sheet.Check: the error of a sheet.
-/
import Derived.Test.YtpljaoagiaijiaaSh
namespace Go.Proofs.Ytpljaoagiaijiaa
open Go.RowKit
/-- what sheet.Check has found of the forms of the first k works -/
def formTo (ws : List Wk) (k : Nat) : Int := if (ws.take k).all (fun x => wOk x.word) then 0 else 6
theorem formTo_zero (ws : List Wk) : formTo ws 0 = 0 := by simp [formTo]
theorem formTo_succ {ws : List Wk} {k : Nat} {x : Wk} (hx : ws[k]? = some x) (h16 : x.word.size ≤ 16) : formTo ws (k + 1) = if formTo ws k < wchk x.word then wchk x.word else formTo ws k := by
  unfold formTo
  rw [List.take_add_one, hx, List.all_append]
  cases h : wOk x.word with
  | true => rw [wchk_ok h16 h]; cases hh : (ws.take k).all (fun x => wOk x.word) <;> simp [h]
  | false => rw [wchk_bad h16 h]; cases hh : (ws.take k).all (fun x => wOk x.word) <;> simp [h]
theorem formTo_cases (ws : List Wk) (k : Nat) : formTo ws k = 0 ∨ formTo ws k = 6 := by unfold formTo; split <;> simp
theorem formTo_all (ws : List Wk) (n : Nat) (h : ws.length ≤ n) : formTo ws n = if ws.all (fun x => wOk x.word) then 0 else 6 := by
  unfold formTo; rw [List.take_of_length_le h]
theorem someLong_no {ws : List Wk} (h : someLong ws = false) : ∀ (k : Nat) (x : Wk), ws[k]? = some x → x.word.size ≤ 16 := fun k x hx => by
  unfold someLong at h
  rw [List.any_eq_false] at h
  have := h x (mem_of_get hx)
  simp at this; omega
theorem someLong_yes {ws : List Wk} (h : someLong ws = true) : ∃ (k : Nat) (x : Wk), ws[k]? = some x ∧ 16 < x.word.size := by
  unfold someLong at h
  obtain ⟨x, hx, h⟩ := List.any_eq_true.1 h
  obtain ⟨k, hk, rfl⟩ := List.mem_iff_getElem.1 hx
  exact ⟨k, _, List.getElem?_eq_getElem hk, by simpa using h⟩
theorem wkBad_of2 {p : Int} {x : Wk} (h : (¬ x.kind = 1 ∧ (¬ x.kind = 2 ∨ x.word.toList.isEmpty = false)) ∨ x.at_ < 0 ∨ p - 2 < x.at_) : wkBad p x = true := by
  rcases h with ⟨h1, h2⟩ | h | h
  · by_cases hk : x.kind = 2
    · rcases h2 with h2 | h2
      · exact absurd hk h2
      · exact wkBad_of (.inr (.inr (.inr ⟨hk, by simp [h2]⟩)))
    · exact wkBad_of (.inl ⟨h1, hk⟩)
  · exact wkBad_of (.inr (.inl h))
  · exact wkBad_of (.inr (.inr (.inl h)))
set_option maxRecDepth 100000 in
set_option maxHeartbeats 1000000 in
theorem shCheck (p : Int) (A : Option Addr) (n c : Nat) (ws : List Wk) (w : World) (hn : n ≤ 9223372036854775807) (hw : RdW w w.heap.size A ws) (hl : ws.length = n)
    (hs : ∀ x ∈ ws, x.word.size ≤ 9223372036854775807) :
    Calls Try.prog 36 #[.agg #[.int .i64 p, .slice A n c]] w fun e w' => e = .returned (.int .i64 (schk p ws)) ∧ Below w.heap.size w w' := by
  have HW := Lib.hid hw; clear hw
  have HL := Lib.hid hl; clear hl
  have HS := Lib.hid hs; clear hs
  by_cases hp : 24 < p
  · go_enter Try.func36, Try.ntmps36
    go_wp2
    go_ret
    exact ⟨ret_int (schk_long (.inl hp)).symm, by go_grown⟩
  have hp' : p ≤ 24 := by omega
  clear hp
  by_cases hn4 : 400 < n
  · have hd : decide ((400 : Int) < (n : Int)) = true := by simp; omega
    go_enter Try.func36, Try.ntmps36
    go_wp2
    go_ret
    exact ⟨ret_int (schk_long (.inr (.inl (by rw [HL.out]; exact hn4)))).symm, by go_grown⟩
  have hn4' : n ≤ 400 := by omega
  have hd : decide ((400 : Int) < (n : Int)) = false := by simp; omega
  have hd2 : decide ((24 : Int) < p) = false := by simp; omega
  clear hn4
  cases hlong : someLong ws with
  | true =>
    have H1 := Lib.hid hlong; clear hlong
    go_enter Try.func36, Try.ntmps36
    go_wp2_with (go_at_call 59; refine (containsFunc1 _ _ _ _ _ (by omega) (HW.out.up (by go_grown)) HL.out HS.out).mono ?_; rintro e w1 ⟨rfl, hb1⟩; rw [H1.out])
    go_ret
    exact ⟨ret_int (schk_long (.inr (.inr (someLong_yes H1.out)))).symm, bvia (by go_grown) hb1⟩
  | false =>
    have H1 := Lib.hid hlong; clear hlong
    have H16 : Hid (∀ (j : Nat) (x : Wk), ws[j]? = some x → x.word.size ≤ 16) := someLong_no H1.out
    by_cases h2 : p < 2
    · go_enter Try.func36, Try.ntmps36
      go_wp2_with (go_at_call 59; refine (containsFunc1 _ _ _ _ _ (by omega) (HW.out.up (by go_grown)) HL.out HS.out).mono ?_; rintro e w1 ⟨rfl, hb1⟩; rw [H1.out]; obtain ⟨hc, hf⟩ := bcell hb1)
      go_ret
      exact ⟨ret_int (schk_arg hp' (by rw [HL.out]; exact hn4') H16.out (.inl h2)).symm, bvia (by go_grown) hb1⟩
    have h2' : 2 ≤ p := by omega
    clear h2
    go_enter Try.func36, Try.ntmps36
    go_wp2_with (go_at_call 59; refine (containsFunc1 _ _ _ _ _ (by omega) (HW.out.up (by go_grown)) HL.out HS.out).mono ?_; rintro e w1 ⟨rfl, hb1⟩; rw [H1.out]; obtain ⟨hc, hf⟩ := bcell hb1)
    have hc0 : w1.cell? ⟨w.heap.size, 0, none⟩ = some (.int .i64 p) := by rw [hc _ _ (by simp)]; go_simp
    have hc1 : w1.cell? ⟨w.heap.size, 1, none⟩ = some (.slice A n c) := by rw [hc _ _ (by simp)]; go_simp
    have hbw : Below w.heap.size w w1 := bvia (by go_grown) hb1
    have hz : w.heap.size < w1.heap.size := by have := hb1.size; simp at this; omega
    clear hc hf hb1
    go_loopw [3, 26] (fun f i wr => ∃ k : Nat, k ≤ n ∧ i = .int .i64 k ∧ f = .int .i64 (formTo ws k) ∧ Below w.heap.size w wr ∧ wr.cell? ⟨w.heap.size, 0, none⟩ = some (.int .i64 p) ∧ wr.cell? ⟨w.heap.size, 1, none⟩ = some (.slice A n c) ∧ w.heap.size < wr.heap.size ∧ (∀ (j : Nat) (x : Wk), j < k → ws[j]? = some x → wkBad p x = false)) (fun _ i _ => n - (intOf i).toNat)
    case atStart => exact ⟨0, Nat.zero_le _, rfl, by rw [formTo_zero], hbw, hc0, hc1, hz, fun j _ hj => absurd hj (by omega)⟩
    case round =>
      clear hbw hc0 hc1 hz
      obtain ⟨k, hk, rfl, rfl, hbw, d0, d1, hz, hno⟩ := hrel
      have H := Lib.hid hno; clear hno
      by_cases hlt : k < n
      · obtain ⟨x, hx⟩ := get_of_lt (l := ws) (k := k) (by rw [HL.out]; exact hlt)
        obtain ⟨b, o, rfl, hb, c1, c2, c3⟩ := (HW.out.below hbw (Nat.le_refl _)) k x hx
        have hsx := HS.out x (mem_of_get hx)
        have h16 := H16.out k x hx
        have HF := Lib.hid (formTo_succ hx h16)
        have HX := Lib.hid hx; clear hx
        go_wp2_with (go_at_call 61; refine (stCheck _ _ hsx).mono ?_; rintro e w' ⟨rfl, rfl⟩)
        all_goals first
          | (go_roundw
             case rel => exact ⟨k + 1, by omega, by go_num, by rw [HF.out], by go_grown, by go_simp, by go_simp, by go_grown, get_step H.out HX.out (wkGood_of (by first | exact .inl ‹_› | exact .inr ⟨‹_›, by simp [‹x.word.toList.isEmpty = true›]⟩) (by omega) (by omega))⟩
             case measure => simp [intOf]; omega)
          | (go_ret
             exact ⟨ret_int (schk_arg hp' (by rw [HL.out]; exact hn4') H16.out (.inr ⟨k, x, HX.out, wkBad_of2 (by first | exact .inl ⟨‹_›, .inl ‹_›⟩ | exact .inl ⟨‹_›, .inr ‹_›⟩ | exact .inr (.inl ‹_›) | exact .inr (.inr ‹_›))⟩)).symm, by go_grown⟩)
      · have hn2 : ws.length ≤ k := by rw [HL.out]; omega
        go_wp2
        go_ret
        exact ⟨ret_int (by rw [schk_form hp' (by rw [HL.out]; exact hn4') H16.out h2' (get_all H.out hn2), formTo_all _ _ hn2]), hbw⟩
end Go.Proofs.Ytpljaoagiaijiaa
