/-
  Contracts of package stitches (words of moves): IndexByte, Check, and of the library's IndexByte beneath.
-/
import Derived.Test.YtnjenggijmbhcaaVK1
import Derived.Laws.StandIn
import Derived.Lib.Bytealg
namespace Go.Proofs.Ytnjenggijmbhcaa
open Go.RowKit
theorem indexByte_eq (l : List UInt8) (c : UInt8) : Lib.indexByte l c = idxOf l c := by
  induction l with
  | nil => rfl
  | cons b l ih =>
    unfold Lib.indexByte
    unfold idxOf at ih ⊢
    simp only [List.idxOf?] at ih ⊢
    rw [List.findIdx?_cons]
    cases hb : (b == c) with
    | true => simp
    | false =>
      rw [ih]
      cases h : List.findIdx? (fun x => x == c) l with
      | none => simp
      | some k =>
        have : ¬ ((k : Int) = -1) := by omega
        simp [this]
theorem idxExt (s : ByteArray) (c : UInt8) (w : World) : (callFunc 116 #[.string s, .int .u8 c.toNat]).run Try.prog w = .ok (.value (.int .i64 (idxOf s.data.toList c))) w := by
  rw [run_callFunc_indexByte Try.func116 (by kernel_rfl) (by kernel_rfl) (by kernel_rfl) (by kernel_rfl), Lib.run_indexByteString]
  rw [indexByte_eq]
  have : (c.toNat : Int).toNat.toUInt8 = c := by simp
  rw [this]
  rfl
theorem liteIndex (s : ByteArray) (c : UInt8) (w : World) :
    Calls Try.prog 112 #[.string s, .int .u8 c.toNat] w fun e w' => e = .returned (.int .i64 (idxOf s.data.toList c)) ∧ w = w' := by
  go_enter Try.func112, Try.ntmps112
  go_wp2_with (simp only [idxExt])
  go_ret
  exact ⟨rfl, rfl⟩
theorem strIndex (s : ByteArray) (c : UInt8) (w : World) :
    Calls Try.prog 95 #[.string s, .int .u8 c.toNat] w fun e w' => e = .returned (.int .i64 (idxOf s.data.toList c)) ∧ w = w' := by
  go_enter Try.func95, Try.ntmps95
  go_wp2_with (go_at_call 112; refine (liteIndex _ _ _).mono ?_; rintro e w' ⟨rfl, rfl⟩)
  go_ret
  exact ⟨rfl, rfl⟩
theorem strIndex_let (c : UInt8) (w : World) :
    Calls Try.prog 95 #[.string ⟨#[67, 84, 76, 82, 80, 99, 116, 108, 114]⟩, .int .u8 c.toNat] w fun e w' => e = .returned (.int .i64 (idxOf letters c)) ∧ w = w' :=
  strIndex ⟨#[67, 84, 76, 82, 80, 99, 116, 108, 114]⟩ c w

set_option maxRecDepth 100000 in
set_option maxHeartbeats 400000 in
theorem stCheck (s : ByteArray) (w : World) (hs : s.size ≤ 9223372036854775807) :
    Calls Try.prog 64 #[.string s] w fun e w' => e = .returned (.int .i64 (wchk s)) ∧ w = w' := by
  by_cases hl : 16 < s.size
  · go_enter Try.func64, Try.ntmps64
    go_wp2
    go_ret
    exact ⟨ret_int (wchk_long hl).symm, rfl⟩
  have hl' : s.size ≤ 16 := by omega
  go_enter Try.func64, Try.ntmps64
  go_wp2
  go_loop [9] (fun i => ∃ k : Nat, k ≤ s.size ∧ i = .int .i64 k ∧ ∀ j, ∀ hj : j < s.size, j < k → isLet s[j] = true) (fun i => s.size - (intOf i).toNat)
  case atStart => exact ⟨0, Nat.zero_le _, rfl, fun j _ hj => absurd hj (by omega)⟩
  case round =>
    obtain ⟨k, hk, rfl, hno⟩ := hrel
    have H := Lib.hid hno; clear hno
    by_cases hlt : k < s.size
    · by_cases hc : 0 ≤ idxOf letters s[k]
      · go_wp2_with (go_at_call 95; refine (strIndex_let _ _).mono ?_; rintro e w' ⟨rfl, rfl⟩)
        go_round
        case rel => exact ⟨k + 1, by omega, by go_num, fun j hs' hj => by
          rcases Nat.lt_or_ge j k with h | h
          · exact H.out j hs' h
          · obtain rfl : j = k := by omega
            exact (isLet_iff _).2 hc⟩
        case measure => simp [intOf]; omega
      · have hc' : idxOf letters s[k] < 0 := by omega
        go_wp2_with (go_at_call 95; refine (strIndex_let _ _).mono ?_; rintro e w' ⟨rfl, rfl⟩)
        go_ret
        exact ⟨ret_int (wchk_bad hl' (wOk_not hlt (idx_no hc'))).symm, rfl⟩
    · go_wp2
      go_ret
      exact ⟨ret_int (wchk_ok hl' (wOk_of fun j hj => H.out j hj (by omega))).symm, rfl⟩
end Go.Proofs.Ytnjenggijmbhcaa
/-
  Contract of sheet.Check, and of slices.ContainsFunc over works with Check's closure.
-/
namespace Go.Proofs.Ytnjenggijmbhcaa
open Go.RowKit
theorem shCheck1 (k a : Int) (s : ByteArray) (w : World) (hs : s.size ≤ 9223372036854775807) :
    Calls Try.prog 63 #[.agg #[.int .i64 k, .int .i64 a, .string s]] w fun e w' => e = .returned (.bool (decide (16 < s.size))) ∧ Below w.heap.size w w' := by
  go_enter Try.func63, Try.ntmps63
  go_wp2
  go_ret
  exact ⟨ret_bool (by simp; omega), by go_grown⟩
/-- some work before the k-th has a long word -/
def someLong (ws : List Wk) : Bool := ws.any fun x => decide (16 < x.word.size)
set_option maxRecDepth 100000 in
set_option maxHeartbeats 400000 in
theorem indexFunc1 (A : Option Addr) (n c : Nat) (ws : List Wk) (w : World) (hn : n ≤ 9223372036854775807) (hw : RdW w w.heap.size A ws) (hl : ws.length = n)
    (hs : ∀ x ∈ ws, x.word.size ≤ 9223372036854775807) :
    Calls Try.prog 94 #[.slice A n c, .func (.func 63) #[] #[]] w fun e w' => ∃ i : Int, e = .returned (.int .i64 i) ∧ decide (0 ≤ i) = someLong ws ∧ Below w.heap.size w w' := by
  have HW := Lib.hid hw; clear hw
  have HL := Lib.hid hl; clear hl
  have HS := Lib.hid hs; clear hs
  go_enter Try.func94, Try.ntmps94
  go_wp2
  go_loopw [8] (fun i wr => ∃ k : Nat, k ≤ n ∧ i = .int .i64 k ∧ Below w.heap.size w wr ∧ (∀ (j : Nat) (x : Wk), j < k → ws[j]? = some x → x.word.size ≤ 16)) (fun i _ => n - (intOf i).toNat)
  case atStart => exact ⟨0, Nat.zero_le _, rfl, by go_grown, fun j _ hj => absurd hj (by omega)⟩
  case round =>
    obtain ⟨k, hk, rfl, hbw, hno⟩ := hrel
    have H := Lib.hid hno; clear hno
    by_cases hlt : k < n
    · obtain ⟨x, hx⟩ := get_of_lt (l := ws) (k := k) (by rw [HL.out]; exact hlt)
      obtain ⟨b, o, rfl, hb, c1, c2, c3⟩ := (HW.out.below hbw (Nat.le_refl _)) k x hx
      have hsx := HS.out x (mem_of_get hx)
      have HX := Lib.hid hx; clear hx
      go_wp2_with (go_at_call 63; refine (shCheck1 _ _ _ _ hsx).mono ?_; rintro e w1 ⟨rfl, hb1⟩)
      · go_ret
        exact ⟨_, rfl, by
          have h16 : 16 < x.word.size := by assumption
          rw [show someLong ws = true from List.any_eq_true.2 ⟨x, mem_of_get HX.out, by simpa using h16⟩]; simp, hbw.trans (hb1.mono hbw.size)⟩
      · go_roundw
        case rel => exact ⟨k + 1, by omega, by go_num, hbw.trans (hb1.mono hbw.size), get_step H.out HX.out (by omega)⟩
        case measure => simp [intOf]; omega
    · go_wp2
      go_ret
      exact ⟨_, rfl, by
        have : someLong ws = false := by
          unfold someLong
          rw [List.any_eq_false]
          intro x hx
          obtain ⟨j, hj, rfl⟩ := List.mem_iff_getElem.1 hx
          have := H.out j _ (by rw [HL.out] at hj; omega) (List.getElem?_eq_getElem hj)
          simp; omega
        rw [this]; simp, hbw⟩
theorem containsFunc1 (A : Option Addr) (n c : Nat) (ws : List Wk) (w : World) (hn : n ≤ 9223372036854775807) (hw : RdW w w.heap.size A ws) (hl : ws.length = n)
    (hs : ∀ x ∈ ws, x.word.size ≤ 9223372036854775807) :
    Calls Try.prog 62 #[.slice A n c, .func (.func 63) #[] #[]] w fun e w' => e = .returned (.bool (someLong ws)) ∧ Below w.heap.size w w' := by
  go_enter Try.func62, Try.ntmps62
  go_wp2_with (go_at_call 94; refine (indexFunc1 _ _ _ _ _ hn hw hl hs).mono ?_; rintro e w' ⟨i, rfl, hi, hb⟩; have HI := Lib.hid hi; clear hi)
  go_ret
  exact ⟨ret_bool (by rw [← HI.out]; try simp), hb⟩
end Go.Proofs.Ytnjenggijmbhcaa
/-
  Contract of sheet.Check: the error of a sheet.
-/
namespace Go.Proofs.Ytnjenggijmbhcaa
open Go.RowKit
/-- what sheet.Check has found of the forms of the first k works -/
def formTo (ws : List Wk) (k : Nat) : Int := if (ws.take k).all (fun x => wOk x.word) then 0 else 6
theorem formTo_zero (ws : List Wk) : formTo ws 0 = 0 := by simp [formTo]
theorem formTo_succ {ws : List Wk} {k : Nat} {x : Wk} (hx : ws[k]? = some x) (h16 : x.word.size ≤ 16) : formTo ws (k + 1) = if formTo ws k < wchk x.word then wchk x.word else formTo ws k := by
  unfold formTo
  rw [List.take_add_one, hx, List.all_append]
  cases h : wOk x.word with
  | true => rw [wchk_ok h16 h]; cases hh : (ws.take k).all (fun x => wOk x.word) <;> simp [h]
  | false => rw [wchk_bad h16 h]; cases hh : (ws.take k).all (fun x => wOk x.word) <;> simp [h]
theorem formTo_cases (ws : List Wk) (k : Nat) : formTo ws k = 0 ∨ formTo ws k = 6 := by unfold formTo; split <;> simp
theorem formTo_all (ws : List Wk) (n : Nat) (h : ws.length ≤ n) : formTo ws n = if ws.all (fun x => wOk x.word) then 0 else 6 := by
  unfold formTo; rw [List.take_of_length_le h]
theorem someLong_no {ws : List Wk} (h : someLong ws = false) : ∀ (k : Nat) (x : Wk), ws[k]? = some x → x.word.size ≤ 16 := fun k x hx => by
  unfold someLong at h
  rw [List.any_eq_false] at h
  have := h x (mem_of_get hx)
  simp at this; omega
theorem someLong_yes {ws : List Wk} (h : someLong ws = true) : ∃ (k : Nat) (x : Wk), ws[k]? = some x ∧ 16 < x.word.size := by
  unfold someLong at h
  obtain ⟨x, hx, h⟩ := List.any_eq_true.1 h
  obtain ⟨k, hk, rfl⟩ := List.mem_iff_getElem.1 hx
  exact ⟨k, _, List.getElem?_eq_getElem hk, by simpa using h⟩
theorem wkBad_of2 {p : Int} {x : Wk} (h : (¬ x.kind = 1 ∧ (¬ x.kind = 2 ∨ x.word.toList.isEmpty = false)) ∨ x.at_ < 0 ∨ p - 2 < x.at_) : wkBad p x = true := by
  rcases h with ⟨h1, h2⟩ | h | h
  · by_cases hk : x.kind = 2
    · rcases h2 with h2 | h2
      · exact absurd hk h2
      · exact wkBad_of (.inr (.inr (.inr ⟨hk, by simp [h2]⟩)))
    · exact wkBad_of (.inl ⟨h1, hk⟩)
  · exact wkBad_of (.inr (.inl h))
  · exact wkBad_of (.inr (.inr (.inl h)))
set_option maxRecDepth 100000 in
set_option maxHeartbeats 1000000 in
theorem shCheck (p : Int) (A : Option Addr) (n c : Nat) (ws : List Wk) (w : World) (hn : n ≤ 9223372036854775807) (hw : RdW w w.heap.size A ws) (hl : ws.length = n)
    (hs : ∀ x ∈ ws, x.word.size ≤ 9223372036854775807) :
    Calls Try.prog 40 #[.agg #[.int .i64 p, .slice A n c]] w fun e w' => e = .returned (.int .i64 (schk p ws)) ∧ Below w.heap.size w w' := by
  have HW := Lib.hid hw; clear hw
  have HL := Lib.hid hl; clear hl
  have HS := Lib.hid hs; clear hs
  by_cases hp : 24 < p
  · go_enter Try.func40, Try.ntmps40
    go_wp2
    go_ret
    exact ⟨ret_int (schk_long (.inl hp)).symm, by go_grown⟩
  have hp' : p ≤ 24 := by omega
  clear hp
  by_cases hn4 : 400 < n
  · have hd : decide ((400 : Int) < (n : Int)) = true := by simp; omega
    go_enter Try.func40, Try.ntmps40
    go_wp2
    go_ret
    exact ⟨ret_int (schk_long (.inr (.inl (by rw [HL.out]; exact hn4)))).symm, by go_grown⟩
  have hn4' : n ≤ 400 := by omega
  have hd : decide ((400 : Int) < (n : Int)) = false := by simp; omega
  have hd2 : decide ((24 : Int) < p) = false := by simp; omega
  clear hn4
  cases hlong : someLong ws with
  | true =>
    have H1 := Lib.hid hlong; clear hlong
    go_enter Try.func40, Try.ntmps40
    go_wp2_with (go_at_call 62; refine (containsFunc1 _ _ _ _ _ (by omega) (HW.out.up (by go_grown)) HL.out HS.out).mono ?_; rintro e w1 ⟨rfl, hb1⟩; rw [H1.out])
    go_ret
    exact ⟨ret_int (schk_long (.inr (.inr (someLong_yes H1.out)))).symm, bvia (by go_grown) hb1⟩
  | false =>
    have H1 := Lib.hid hlong; clear hlong
    have H16 : Hid (∀ (j : Nat) (x : Wk), ws[j]? = some x → x.word.size ≤ 16) := someLong_no H1.out
    by_cases h2 : p < 2
    · go_enter Try.func40, Try.ntmps40
      go_wp2_with (go_at_call 62; refine (containsFunc1 _ _ _ _ _ (by omega) (HW.out.up (by go_grown)) HL.out HS.out).mono ?_; rintro e w1 ⟨rfl, hb1⟩; rw [H1.out]; obtain ⟨hc, hf⟩ := bcell hb1)
      go_ret
      exact ⟨ret_int (schk_arg hp' (by rw [HL.out]; exact hn4') H16.out (.inl h2)).symm, bvia (by go_grown) hb1⟩
    have h2' : 2 ≤ p := by omega
    clear h2
    go_enter Try.func40, Try.ntmps40
    go_wp2_with (go_at_call 62; refine (containsFunc1 _ _ _ _ _ (by omega) (HW.out.up (by go_grown)) HL.out HS.out).mono ?_; rintro e w1 ⟨rfl, hb1⟩; rw [H1.out]; obtain ⟨hc, hf⟩ := bcell hb1)
    have hc0 : w1.cell? ⟨w.heap.size, 0, none⟩ = some (.int .i64 p) := by rw [hc _ _ (by simp)]; go_simp
    have hc1 : w1.cell? ⟨w.heap.size, 1, none⟩ = some (.slice A n c) := by rw [hc _ _ (by simp)]; go_simp
    have hbw : Below w.heap.size w w1 := bvia (by go_grown) hb1
    have hz : w.heap.size < w1.heap.size := by have := hb1.size; simp at this; omega
    clear hc hf hb1
    go_loopw [3, 26] (fun f i wr => ∃ k : Nat, k ≤ n ∧ i = .int .i64 k ∧ f = .int .i64 (formTo ws k) ∧ Below w.heap.size w wr ∧ wr.cell? ⟨w.heap.size, 0, none⟩ = some (.int .i64 p) ∧ wr.cell? ⟨w.heap.size, 1, none⟩ = some (.slice A n c) ∧ w.heap.size < wr.heap.size ∧ (∀ (j : Nat) (x : Wk), j < k → ws[j]? = some x → wkBad p x = false)) (fun _ i _ => n - (intOf i).toNat)
    case atStart => exact ⟨0, Nat.zero_le _, rfl, by rw [formTo_zero], hbw, hc0, hc1, hz, fun j _ hj => absurd hj (by omega)⟩
    case round =>
      clear hbw hc0 hc1 hz
      obtain ⟨k, hk, rfl, rfl, hbw, d0, d1, hz, hno⟩ := hrel
      have H := Lib.hid hno; clear hno
      by_cases hlt : k < n
      · obtain ⟨x, hx⟩ := get_of_lt (l := ws) (k := k) (by rw [HL.out]; exact hlt)
        obtain ⟨b, o, rfl, hb, c1, c2, c3⟩ := (HW.out.below hbw (Nat.le_refl _)) k x hx
        have hsx := HS.out x (mem_of_get hx)
        have h16 := H16.out k x hx
        have HF := Lib.hid (formTo_succ hx h16)
        have HX := Lib.hid hx; clear hx
        go_wp2_with (go_at_call 64; refine (stCheck _ _ hsx).mono ?_; rintro e w' ⟨rfl, rfl⟩)
        all_goals first
          | (go_roundw
             case rel => exact ⟨k + 1, by omega, by go_num, by rw [HF.out], by go_grown, by go_simp, by go_simp, by go_grown, get_step H.out HX.out (wkGood_of (by first | exact .inl ‹_› | exact .inr ⟨‹_›, by simp [‹x.word.toList.isEmpty = true›]⟩) (by omega) (by omega))⟩
             case measure => simp [intOf]; omega)
          | (go_ret
             exact ⟨ret_int (schk_arg hp' (by rw [HL.out]; exact hn4') H16.out (.inr ⟨k, x, HX.out, wkBad_of2 (by first | exact .inl ⟨‹_›, .inl ‹_›⟩ | exact .inl ⟨‹_›, .inr ‹_›⟩ | exact .inr (.inl ‹_›) | exact .inr (.inr ‹_›))⟩)).symm, by go_grown⟩)
      · have hn2 : ws.length ≤ k := by rw [HL.out]; omega
        go_wp2
        go_ret
        exact ⟨ret_int (by rw [schk_form hp' (by rw [HL.out]; exact hn4') H16.out h2' (get_all H.out hn2), formTo_all _ _ hn2]), hbw⟩
end Go.Proofs.Ytnjenggijmbhcaa
