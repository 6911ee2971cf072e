/-
  Contract of sheet.Check, and of slices.ContainsFunc over works with Check's closure.
-/
import Derived.Test.YtdimfbmbomgiaaaV2
import Derived.Test.YtdimfbmbomgiaaaV4
import Derived.Deep.Cut
namespace Go.Proofs.Ytdimfbmbomgiaaa
open Go.RowKit
theorem shCheck1 (k a : Int) (s : ByteArray) (w : World) (hs : s.size ≤ 9223372036854775807) :
    Calls Try.prog 48 #[.agg #[.int .i64 k, .int .i64 a, .string s]] w fun e w' => e = .returned (.bool (decide (16 < s.size))) ∧ Below w.heap.size w w' := by
  go_enter Try.func48, Try.ntmps48
  go_wp2
  go_ret
  exact ⟨ret_bool (by simp; omega), by go_grown⟩
/-- some work before the k-th has a long word -/
def someLong (ws : List Wk) : Bool := ws.any fun x => decide (16 < x.word.size)
set_option maxRecDepth 100000 in
set_option maxHeartbeats 400000 in
theorem indexFunc1 (A : Option Addr) (n c : Nat) (ws : List Wk) (w : World) (hn : n ≤ 9223372036854775807) (hw : RdW w w.heap.size A ws) (hl : ws.length = n)
    (hs : ∀ x ∈ ws, x.word.size ≤ 9223372036854775807) :
    Calls Try.prog 58 #[.slice A n c, .func (.func 48) #[] #[]] w fun e w' => ∃ i : Int, e = .returned (.int .i64 i) ∧ decide (0 ≤ i) = someLong ws ∧ Below w.heap.size w w' := by
  have HW := Lib.hid hw; clear hw
  have HL := Lib.hid hl; clear hl
  have HS := Lib.hid hs; clear hs
  go_enter Try.func58, Try.ntmps58
  go_wp2
  go_loopw [8] (fun i wr => ∃ k : Nat, k ≤ n ∧ i = .int .i64 k ∧ Below w.heap.size w wr ∧ (∀ (j : Nat) (x : Wk), j < k → ws[j]? = some x → x.word.size ≤ 16)) (fun i _ => n - (intOf i).toNat)
  case atStart => exact ⟨0, Nat.zero_le _, rfl, by go_grown, fun j _ hj => absurd hj (by omega)⟩
  case round =>
    obtain ⟨k, hk, rfl, hbw, hno⟩ := hrel
    have H := Lib.hid hno; clear hno
    by_cases hlt : k < n
    · obtain ⟨x, hx⟩ := get_of_lt (l := ws) (k := k) (by rw [HL.out]; exact hlt)
      obtain ⟨b, o, rfl, hb, c1, c2, c3⟩ := (HW.out.below hbw (Nat.le_refl _)) k x hx
      have hsx := HS.out x (mem_of_get hx)
      have HX := Lib.hid hx; clear hx
      go_wp2_with (go_at_call 48; refine (shCheck1 _ _ _ _ hsx).mono ?_; rintro e w1 ⟨rfl, hb1⟩)
      · go_ret
        exact ⟨_, rfl, by
          have h16 : 16 < x.word.size := by assumption
          rw [show someLong ws = true from List.any_eq_true.2 ⟨x, mem_of_get HX.out, by simpa using h16⟩]; simp, hbw.trans (hb1.mono hbw.size)⟩
      · go_roundw
        case rel => exact ⟨k + 1, by omega, by go_num, hbw.trans (hb1.mono hbw.size), get_step H.out HX.out (by omega)⟩
        case measure => simp [intOf]; omega
    · go_wp2
      go_ret
      exact ⟨_, rfl, by
        have : someLong ws = false := by
          unfold someLong
          rw [List.any_eq_false]
          intro x hx
          obtain ⟨j, hj, rfl⟩ := List.mem_iff_getElem.1 hx
          have := H.out j _ (by rw [HL.out] at hj; omega) (List.getElem?_eq_getElem hj)
          simp; omega
        rw [this]; simp, hbw⟩
theorem containsFunc1 (A : Option Addr) (n c : Nat) (ws : List Wk) (w : World) (hn : n ≤ 9223372036854775807) (hw : RdW w w.heap.size A ws) (hl : ws.length = n)
    (hs : ∀ x ∈ ws, x.word.size ≤ 9223372036854775807) :
    Calls Try.prog 47 #[.slice A n c, .func (.func 48) #[] #[]] w fun e w' => e = .returned (.bool (someLong ws)) ∧ Below w.heap.size w w' := by
  go_enter Try.func47, Try.ntmps47
  go_wp2_with (go_at_call 58; refine (indexFunc1 _ _ _ _ _ hn hw hl hs).mono ?_; rintro e w' ⟨i, rfl, hi, hb⟩; have HI := Lib.hid hi; clear hi)
  go_ret
  exact ⟨ret_bool (by rw [← HI.out]; try simp), hb⟩
end Go.Proofs.Ytdimfbmbomgiaaa
/-
  Contract of sheet.Check: the error of a sheet.
-/
namespace Go.Proofs.Ytdimfbmbomgiaaa
open Go.RowKit
/-- what sheet.Check has found of the forms of the first k works -/
def formTo (ws : List Wk) (k : Nat) : Int := if (ws.take k).all (fun x => wOk x.word) then 0 else 6
theorem formTo_zero (ws : List Wk) : formTo ws 0 = 0 := by simp [formTo]
theorem formTo_succ {ws : List Wk} {k : Nat} {x : Wk} (hx : ws[k]? = some x) (h16 : x.word.size ≤ 16) : formTo ws (k + 1) = if formTo ws k < wchk x.word then wchk x.word else formTo ws k := by
  unfold formTo
  rw [List.take_add_one, hx, List.all_append]
  cases h : wOk x.word with
  | true => rw [wchk_ok h16 h]; cases hh : (ws.take k).all (fun x => wOk x.word) <;> simp [h]
  | false => rw [wchk_bad h16 h]; cases hh : (ws.take k).all (fun x => wOk x.word) <;> simp [h]
theorem formTo_cases (ws : List Wk) (k : Nat) : formTo ws k = 0 ∨ formTo ws k = 6 := by unfold formTo; split <;> simp
theorem formTo_all (ws : List Wk) (n : Nat) (h : ws.length ≤ n) : formTo ws n = if ws.all (fun x => wOk x.word) then 0 else 6 := by
  unfold formTo; rw [List.take_of_length_le h]
theorem someLong_no {ws : List Wk} (h : someLong ws = false) : ∀ (k : Nat) (x : Wk), ws[k]? = some x → x.word.size ≤ 16 := fun k x hx => by
  unfold someLong at h
  rw [List.any_eq_false] at h
  have := h x (mem_of_get hx)
  simp at this; omega
theorem someLong_yes {ws : List Wk} (h : someLong ws = true) : ∃ (k : Nat) (x : Wk), ws[k]? = some x ∧ 16 < x.word.size := by
  unfold someLong at h
  obtain ⟨x, hx, h⟩ := List.any_eq_true.1 h
  obtain ⟨k, hk, rfl⟩ := List.mem_iff_getElem.1 hx
  exact ⟨k, _, List.getElem?_eq_getElem hk, by simpa using h⟩
theorem wkBad_of2 {p : Int} {x : Wk} (h : (¬ x.kind = 1 ∧ (¬ x.kind = 2 ∨ x.word.toList.isEmpty = false)) ∨ x.at_ < 0 ∨ p - 2 < x.at_) : wkBad p x = true := by
  rcases h with ⟨h1, h2⟩ | h | h
  · by_cases hk : x.kind = 2
    · rcases h2 with h2 | h2
      · exact absurd hk h2
      · exact wkBad_of (.inr (.inr (.inr ⟨hk, by simp [h2]⟩)))
    · exact wkBad_of (.inl ⟨h1, hk⟩)
  · exact wkBad_of (.inr (.inl h))
  · exact wkBad_of (.inr (.inr (.inl h)))
set_option maxRecDepth 100000 in
set_option maxHeartbeats 1000000 in
theorem shCheck (p : Int) (A : Option Addr) (n c : Nat) (ws : List Wk) (w : World) (hn : n ≤ 9223372036854775807) (hw : RdW w w.heap.size A ws) (hl : ws.length = n)
    (hs : ∀ x ∈ ws, x.word.size ≤ 9223372036854775807) :
    Calls Try.prog 29 #[.agg #[.int .i64 p, .slice A n c]] w fun e w' => e = .returned (.int .i64 (schk p ws)) ∧ Below w.heap.size w w' := by
  have HW := Lib.hid hw; clear hw
  have HL := Lib.hid hl; clear hl
  have HS := Lib.hid hs; clear hs
  by_cases hp : 24 < p
  · go_enter Try.func29, Try.ntmps29
    go_wp2
    go_ret
    exact ⟨ret_int (schk_long (.inl hp)).symm, by go_grown⟩
  have hp' : p ≤ 24 := by omega
  clear hp
  by_cases hn4 : 400 < n
  · have hd : decide ((400 : Int) < (n : Int)) = true := by simp; omega
    go_enter Try.func29, Try.ntmps29
    go_wp2
    go_ret
    exact ⟨ret_int (schk_long (.inr (.inl (by rw [HL.out]; exact hn4)))).symm, by go_grown⟩
  have hn4' : n ≤ 400 := by omega
  have hd : decide ((400 : Int) < (n : Int)) = false := by simp; omega
  have hd2 : decide ((24 : Int) < p) = false := by simp; omega
  clear hn4
  cases hlong : someLong ws with
  | true =>
    have H1 := Lib.hid hlong; clear hlong
    go_enter Try.func29, Try.ntmps29
    go_wp2_with (go_at_call 47; refine (containsFunc1 _ _ _ _ _ (by omega) (HW.out.up (by go_grown)) HL.out HS.out).mono ?_; rintro e w1 ⟨rfl, hb1⟩; rw [H1.out])
    go_ret
    exact ⟨ret_int (schk_long (.inr (.inr (someLong_yes H1.out)))).symm, bvia (by go_grown) hb1⟩
  | false =>
    have H1 := Lib.hid hlong; clear hlong
    have H16 : Hid (∀ (j : Nat) (x : Wk), ws[j]? = some x → x.word.size ≤ 16) := someLong_no H1.out
    by_cases h2 : p < 2
    · go_enter Try.func29, Try.ntmps29
      go_wp2_with (go_at_call 47; refine (containsFunc1 _ _ _ _ _ (by omega) (HW.out.up (by go_grown)) HL.out HS.out).mono ?_; rintro e w1 ⟨rfl, hb1⟩; rw [H1.out]; obtain ⟨hc, hf⟩ := bcell hb1)
      go_ret
      exact ⟨ret_int (schk_arg hp' (by rw [HL.out]; exact hn4') H16.out (.inl h2)).symm, bvia (by go_grown) hb1⟩
    have h2' : 2 ≤ p := by omega
    clear h2
    go_enter Try.func29, Try.ntmps29
    go_wp2_with (go_at_call 47; refine (containsFunc1 _ _ _ _ _ (by omega) (HW.out.up (by go_grown)) HL.out HS.out).mono ?_; rintro e w1 ⟨rfl, hb1⟩; rw [H1.out]; obtain ⟨hc, hf⟩ := bcell hb1)
    have hc0 : w1.cell? ⟨w.heap.size, 0, none⟩ = some (.int .i64 p) := by rw [hc _ _ (by simp)]; go_simp
    have hc1 : w1.cell? ⟨w.heap.size, 1, none⟩ = some (.slice A n c) := by rw [hc _ _ (by simp)]; go_simp
    have hbw : Below w.heap.size w w1 := bvia (by go_grown) hb1
    have hz : w.heap.size < w1.heap.size := by have := hb1.size; simp at this; omega
    clear hc hf hb1
    go_loopw [3, 26] (fun f i wr => ∃ k : Nat, k ≤ n ∧ i = .int .i64 k ∧ f = .int .i64 (formTo ws k) ∧ Below w.heap.size w wr ∧ wr.cell? ⟨w.heap.size, 0, none⟩ = some (.int .i64 p) ∧ wr.cell? ⟨w.heap.size, 1, none⟩ = some (.slice A n c) ∧ w.heap.size < wr.heap.size ∧ (∀ (j : Nat) (x : Wk), j < k → ws[j]? = some x → wkBad p x = false)) (fun _ i _ => n - (intOf i).toNat)
    case atStart => exact ⟨0, Nat.zero_le _, rfl, by rw [formTo_zero], hbw, hc0, hc1, hz, fun j _ hj => absurd hj (by omega)⟩
    case round =>
      clear hbw hc0 hc1 hz
      obtain ⟨k, hk, rfl, rfl, hbw, d0, d1, hz, hno⟩ := hrel
      have H := Lib.hid hno; clear hno
      by_cases hlt : k < n
      · obtain ⟨x, hx⟩ := get_of_lt (l := ws) (k := k) (by rw [HL.out]; exact hlt)
        obtain ⟨b, o, rfl, hb, c1, c2, c3⟩ := (HW.out.below hbw (Nat.le_refl _)) k x hx
        have hsx := HS.out x (mem_of_get hx)
        have h16 := H16.out k x hx
        have HF := Lib.hid (formTo_succ hx h16)
        have HX := Lib.hid hx; clear hx
        go_wp2_with (go_at_call 49; refine (stCheck _ _ hsx).mono ?_; rintro e w' ⟨rfl, rfl⟩)
        all_goals first
          | (go_roundw
             case rel => exact ⟨k + 1, by omega, by go_num, by rw [HF.out], by go_grown, by go_simp, by go_simp, by go_grown, get_step H.out HX.out (wkGood_of (by first | exact .inl ‹_› | exact .inr ⟨‹_›, by simp [‹x.word.toList.isEmpty = true›]⟩) (by omega) (by omega))⟩
             case measure => simp [intOf]; omega)
          | (go_ret
             exact ⟨ret_int (schk_arg hp' (by rw [HL.out]; exact hn4') H16.out (.inr ⟨k, x, HX.out, wkBad_of2 (by first | exact .inl ⟨‹_›, .inl ‹_›⟩ | exact .inl ⟨‹_›, .inr ‹_›⟩ | exact .inr (.inl ‹_›) | exact .inr (.inr ‹_›))⟩)).symm, by go_grown⟩)
      · have hn2 : ws.length ≤ k := by rw [HL.out]; omega
        go_wp2
        go_ret
        exact ⟨ret_int (by rw [schk_form hp' (by rw [HL.out]; exact hn4') H16.out h2' (get_all H.out hn2), formTo_all _ _ hn2]), hbw⟩
end Go.Proofs.Ytdimfbmbomgiaaa
/-
  Plain law: the threads that the crossings of a cloth without error name are threads of it.
-/
namespace Go.Proofs.Ytdimfbmbomgiaaa
open Go.RowKit
theorem endsTo_rng (xs : List Q4) (T : Nat) : ∀ (k : Nat) (L : List Int), endsTo xs (lineL T) k = some L → ∀ v ∈ L, 0 ≤ v ∧ v < (T : Int)
  | 0, L, h => by
    obtain rfl : lineL T = L := by injection h
    intro v hv
    simp [lineL] at hv
    obtain ⟨j, hj, rfl⟩ := hv
    omega
  | k + 1, L, h => by
    cases hE : endsTo xs (lineL T) k with
    | none => rw [show endsTo xs (lineL T) (k + 1) = none from endsTo_none hE _ (Nat.le_succ k)] at h; cases h
    | some L' =>
      have ih := endsTo_rng xs T k L' hE
      cases hx : xs[k]? with
      | none =>
        have : endsTo xs (lineL T) (k + 1) = none := by
          show (endsTo xs (lineL T) k).bind _ = none
          rw [hE, hx]; rfl
        rw [this] at h; cases h
      | some x =>
        rw [endsTo_succ hE hx] at h
        unfold endStep at h
        split at h
        · rename_i a b ha hb
          split at h
          · injection h with h
            subst h
            intro v hv
            rcases List.mem_or_eq_of_mem_set hv with hv | rfl
            · rcases List.mem_or_eq_of_mem_set hv with hv | rfl
              · exact ih v hv
              · exact ih _ (mem_of_get hb)
            · exact ih _ (mem_of_get ha)
          · cases h
        · cases h
theorem endsTo_some {xs : List Q4} {L : List Int} {n : Nat} (h : (endsTo xs L n).isSome = true) {k : Nat} (hk : k ≤ n) : ∃ L', endsTo xs L k = some L' := by
  cases hE : endsTo xs L k with
  | none => rw [endsTo_none hE _ hk] at h; cases h
  | some L' => exact ⟨L', rfl⟩
theorem ends_rng {t : Int} {xs : List Q4} (h0 : 2 ≤ t) (h : endsOk t xs = true) : ∀ x ∈ xs, (0 ≤ x.c ∧ x.c < t) ∧ (0 ≤ x.d ∧ x.d < t) := fun x hm => by
  obtain ⟨k, hk⟩ := List.mem_iff_getElem?.1 hm
  have hlt := lt_of_get hk
  obtain ⟨L, hL⟩ := endsTo_some h (k := k) (by omega)
  obtain ⟨L', hL'⟩ := endsTo_some h (k := k + 1) (by omega)
  have hr := endsTo_rng xs t.toNat k L hL
  rw [endsTo_succ hL hk] at hL'
  unfold endStep at hL'
  split at hL'
  · rename_i a b ha hb
    split at hL'
    · rename_i hok
      have h1 := hr a (mem_of_get ha)
      have h2 := hr b (mem_of_get hb)
      unfold endOk at hok
      simp at hok
      omega
    · cases hL'
  · cases hL'
theorem ckE_ok {t : Int} {xs ps : List Q4} (h : ckE t xs ps = 0) : 2 ≤ t ∧ t ≤ 48 ∧ xs.length ≤ 20000 ∧ ps.length ≤ 6400 ∧ (∀ x ∈ xs, okC t x = true) ∧ (∀ x ∈ ps, okP t x = true) ∧ endsOk t xs = true := by
  unfold ckE at h
  split at h
  · cases h
  · rename_i h1
    split at h
    · cases h
    · rename_i h2
      split at h
      · cases h
      · rename_i h3
        obtain ⟨p1, p2, p3⟩ := numsOk_parts (t := t) (xs := xs) (ps := ps) (by simpa using h2)
        exact ⟨p1, by omega, by omega, by omega, p2, p3, by simpa using h3⟩
/-- what is known of each crossing of a cloth without error -/
theorem cross_ok {t : Int} {xs ps : List Q4} (h : ckE t xs ps = 0) : ∀ x ∈ xs, ((0 ≤ x.c ∧ x.c < t) ∧ (0 ≤ x.d ∧ x.d < t)) ∧ (0 ≤ x.b ∧ x.b ≤ t - 2) := fun x hm => by
  obtain ⟨h0, _, _, _, h1, _, h2⟩ := ckE_ok h
  refine ⟨ends_rng h0 h2 x hm, ?_⟩
  have := h1 x hm
  unfold okC at this
  simp at this
  omega
end Go.Proofs.Ytdimfbmbomgiaaa
/-
  Contracts of chapter 17: slices.Contains, the threads that are asked for.
-/
namespace Go.Proofs.Ytdimfbmbomgiaaa
open Go.RowKit
/-- a thread of the cloth -/
def inT (t n : Int) : Bool := decide (0 ≤ n) && decide (n ≤ t - 1)
/-- are the first k of some threads threads of the cloth, each but once? -/
def thTo (t : Int) (ths : List Int) : Nat → Bool
  | 0 => true
  | k + 1 => thTo t ths k && (match ths[k]? with | some x => inT t x && !(ths.take k).contains x | none => true)
def askE (t : Int) (xs ps : List Q4) (ths : List Int) : Int := if ckE t xs ps = 0 then (if thTo t ths ths.length = true then 0 else 2) else ckE t xs ps
theorem thTo_succ {t : Int} {ths : List Int} {k : Nat} {x : Int} (h : ths[k]? = some x) : thTo t ths (k + 1) = (thTo t ths k && (inT t x && !(ths.take k).contains x)) := by
  show (thTo t ths k && (match ths[k]? with | some x => inT t x && !(ths.take k).contains x | none => true)) = _
  rw [h]
theorem thTo_no {t : Int} {ths : List Int} {k : Nat} (h : thTo t ths k = false) : ∀ d, thTo t ths (k + d) = false
  | 0 => h
  | d + 1 => by
    have := thTo_no h d
    show (thTo t ths (k + d) && _) = false
    rw [this]; rfl
theorem thTo_bad {t : Int} {ths : List Int} {k : Nat} (h : thTo t ths k = false) (hk : k ≤ ths.length) : thTo t ths ths.length = false := by
  obtain ⟨d, hd⟩ : ∃ d, ths.length = k + d := ⟨ths.length - k, by omega⟩
  rw [hd]; exact thTo_no h d
theorem has_step {l : List Int} {k : Nat} {x v : Int} (hx : l[k]? = some x) : (l.take (k + 1)).contains v = ((l.take k).contains v || (v == x)) := by
  rw [List.take_add_one, hx]
  rw [Bool.eq_iff_iff]
  simp
theorem has_yes {l : List Int} {k : Nat} {x v : Int} (hx : l[k]? = some x) (h : v = x) : l.contains v = true := by
  rw [List.contains_iff_mem, h]; exact mem_of_get hx
theorem rdI_take {w : World} {B k : Nat} {A : Option Addr} {D : List Int} (h : RdI w B A D) : RdI w B A (D.take k) := fun j x hx => by
  have hj := lt_of_get hx
  rw [List.length_take] at hj
  rw [List.getElem?_take_of_lt (by omega)] at hx
  exact h j x hx
end Go.Proofs.Ytdimfbmbomgiaaa
/-
  Contracts of chapter 17: the crossings that all of some threads make; Follow and Meet.
-/
namespace Go.Proofs.Ytdimfbmbomgiaaa
open Go.RowKit
/-- does a crossing name a thread? -/
def ofP (x : Q4) (n : Int) : Bool := n == x.c || n == x.d
/-- which of the first k crossings name all of some threads -/
def ofTo (xs : List Q4) (ths : List Int) : Nat → List Int
  | 0 => []
  | k + 1 => match xs[k]? with
    | some x => if ths.all (ofP x) = true then ofTo xs ths k ++ [(k : Int)] else ofTo xs ths k
    | none => ofTo xs ths k
def ofR (t : Int) (xs ps : List Q4) (ths : List Int) : List Int := if askE t xs ps ths = 0 then ofTo xs ths xs.length else []
theorem ofTo_yes {xs : List Q4} {ths : List Int} {k : Nat} {x : Q4} (h : xs[k]? = some x) (ha : ths.all (ofP x) = true) : ofTo xs ths (k + 1) = ofTo xs ths k ++ [(k : Int)] := by
  show (match xs[k]? with | some x => if ths.all (ofP x) = true then ofTo xs ths k ++ [(k : Int)] else ofTo xs ths k | none => ofTo xs ths k) = _
  rw [h]; simp only [ha, if_true]
theorem ofTo_no {xs : List Q4} {ths : List Int} {k : Nat} {x : Q4} (h : xs[k]? = some x) (ha : ths.all (ofP x) = false) : ofTo xs ths (k + 1) = ofTo xs ths k := by
  show (match xs[k]? with | some x => if ths.all (ofP x) = true then ofTo xs ths k ++ [(k : Int)] else ofTo xs ths k | none => ofTo xs ths k) = _
  rw [h]; simp only [ha]; rfl
theorem allP_step {p : Int → Bool} {l : List Int} {k : Nat} {x : Int} (hx : l[k]? = some x) : (l.take (k + 1)).all p = ((l.take k).all p && p x) := by
  rw [List.take_add_one, hx]; simp
theorem allP_no {p : Int → Bool} {l : List Int} {k : Nat} {x : Int} (hx : l[k]? = some x) (h : p x = false) : l.all p = false := by
  rw [List.all_eq_false]; exact ⟨x, mem_of_get hx, by rw [h]; simp⟩
end Go.Proofs.Ytdimfbmbomgiaaa
/-
  Contracts of chapter 17: Follow and Meet of both packages.
-/
namespace Go.Proofs.Ytdimfbmbomgiaaa
open Go.RowKit
theorem rdI_lits (w : World) (l : List Int) : RdI (w.alloc (.cells (l.map vInt).toArray 3)) (w.alloc (.cells (l.map vInt).toArray 3)).heap.size (some ⟨w.heap.size, 0, none⟩) l := fun k x hx => by
  refine ⟨w.heap.size, 0, rfl, by simp, ?_⟩
  rw [Nat.zero_add, (Has.new rfl).cell, List.getElem?_map, hx]; rfl
theorem ask_one (t : Int) (xs ps : List Q4) (a : Int) : askE t xs ps [a] = if ckE t xs ps = 0 then (if inT t a = true then 0 else 2) else ckE t xs ps := by
  unfold askE
  have : thTo t [a] [a].length = inT t a := by simp [thTo]
  rw [this]
theorem ask_two (t : Int) (xs ps : List Q4) (a b : Int) : askE t xs ps [a, b] = if ckE t xs ps = 0 then (if inT t a = true ∧ inT t b = true ∧ a ≠ b then 0 else 2) else ckE t xs ps := by
  unfold askE
  have : (thTo t [a, b] [a, b].length = true) ↔ (inT t a = true ∧ inT t b = true ∧ a ≠ b) := by
    simp [thTo]
    intro _ _
    exact ⟨fun h e => h e.symm, fun h e => h e.symm⟩
  simp only [this]
theorem no_one {x : Q4} {a b : Int} (h1 : ¬ x.c = a) (h3 : ¬ x.d = a) : [a, b].all (ofP x) = false := by
  have q1 : ofP x a = false := by unfold ofP; simp; exact ⟨fun h => h1 h.symm, fun h => h3 h.symm⟩
  simp [q1]
theorem no_two {x : Q4} {a b : Int} (hab : a ≠ b) (h1 : ¬ x.c = a) (h2 : ¬ x.c = b) : [a, b].all (ofP x) = false := by
  by_cases h3 : x.d = a
  · have q1 : ofP x b = false := by unfold ofP; simp; exact ⟨fun h => h2 h.symm, fun h => hab (h3.symm.trans h.symm)⟩
    simp [q1]
  · exact no_one h1 h3
end Go.Proofs.Ytdimfbmbomgiaaa
/-
  Contract of chapter 17: Ends.
-/
namespace Go.Proofs.Ytdimfbmbomgiaaa
open Go.RowKit
def endsR (t : Int) (xs ps : List Q4) : List Int := if ckE t xs ps = 0 then (lineTo xs (lineL 48) xs.length).take t.toNat else []
theorem keepC_below {g B : Nat} {V W : World} (h : KeepC g V W) (hB : B ≤ g) (hV : B ≤ V.heap.size) : Below B V W := ⟨h.os, h.tape, h.output, h.size, fun i hi => h.same i (by omega) (by omega)⟩
theorem lineTo_next {xs : List Q4} {L : List Int} {k i : Nat} {x : Q4} {a b : Int} (h : xs[k]? = some x) (hi : x.b = (i : Int)) (ha : (lineTo xs L k)[i]? = some a) (hb : (lineTo xs L k)[i + 1]? = some b) : lineTo xs L (k + 1) = ((lineTo xs L k).set i b).set (i + 1) a := by
  show (match xs[k]? with | some x => swapL (lineTo xs L k) x | none => lineTo xs L k) = _
  rw [h]
  show swapL (lineTo xs L k) x = _
  unfold swapL
  rw [hi, show ((i : Nat) : Int).toNat = i by simp, List.getD_eq_getElem?_getD, List.getD_eq_getElem?_getD, ha, hb]; rfl
theorem rdI_hasC {w : World} {g : Nat} {t : TypeId} {L : List Int} (h : Has w g t (L.map vInt)) : RdI w w.heap.size (some ⟨g, 0, none⟩) L := fun k x hx => by
  refine ⟨g, 0, rfl, h.lt, ?_⟩
  rw [Nat.zero_add, h.cell, List.getElem?_map, hx]; rfl
set_option maxRecDepth 100000 in
set_option maxHeartbeats 4000000 in
theorem ends18 (t : Int) (A B : Option Addr) (n c m d : Nat) (xs ps : List Q4) (w : World) (hn : n ≤ 9223372036854775807) (hm : m ≤ 9223372036854775807) (hx : RdQ w w.heap.size A xs) (hp : RdQ w w.heap.size B ps)
    (hl : xs.length = n) (hl' : ps.length = m) (ht0 : -9223372036854775808 ≤ t) :
    Calls Try.prog 53 #[vCloth t A n c B m d] w (RetIE (endsR t xs ps) (ckE t xs ps) w) := by
  have HX := Lib.hid hx
  have C1 := Lib.hid (fun (W : World) (hb : Below w.heap.size w W) => check42 t A B n c m d xs ps W hn hm (hx.up hb) (hp.up hb) hl hl' ht0)
  clear hx hp
  have K0 : Has (w.alloc (.cells #[.int .i64 t, .slice A n c, .slice B m d] 49)) w.heap.size 49 [.int .i64 t, .slice A n c, .slice B m d] := Has.new rfl
  by_cases hE : ckE t xs ps = 0
  · obtain ⟨ht2, ht48, hn2, _⟩ := ckE_ok hE
    rw [hl] at hn2
    obtain ⟨Tn, rfl⟩ := Int.eq_ofNat_of_zero_le (show 0 ≤ t by omega)
    have hT : Tn ≤ 48 := by omega
    have hT' : (Tn : Int) ≤ 48 := by omega
    have hT0 : (0 : Int) ≤ (Tn : Int) := by omega
    have HCR := Lib.hid (fun x hx => (cross_ok hE x hx).2)
    have hR : endsR (Tn : Int) xs ps = (lineTo xs (lineL 48) n).take Tn := by unfold endsR; rw [if_pos hE, hl]; simp
    rw [hR, hE]
    rw [hE] at C1
    have HL := Lib.hid hl
    clear hR hE hl hl' ht2 ht48
    go_enter Try.func53, Try.ntmps53
    go_wp2_with fail
    refine (C1.out _ (by go_grown)).mono ?_
    rintro e w1 ⟨rfl, hb1⟩
    have B1 := bvia (show Below w.heap.size w _ by go_grown) hb1
    have HC := Lib.hid (K0.below hb1 K0.lt)
    clear K0 hb1 C1
    go_wp2_with fail
    refine (begun57 _).mono ?_
    rintro e w2 ⟨rfl, hb2⟩
    have hlen : ((lineL 48).map vInt).length = 48 := by simp [lineL_len]
    have hinfo : (Try.prog.info? 109).map (·.size) = some 48 := by kernel_rfl
    have B2 := bvia B1 hb2
    replace HC := Lib.hid (HC.out.below hb2 HC.out.lt)
    have HX2 := Lib.hid (HX.out.up B2)
    clear HX hb2 B1
    go_wp2_with (first | (refine wpList_store_has rfl 109 (.tmp 5) (.tmp 13) rfl w2.heap.size ((lineL 48).map vInt) rfl rfl 109 _ (Has.new rfl) (by rw [hlen, hinfo]) (by rw [hlen]; rfl) (by simp [lineL]; intros; rfl) ?_) | fail)
    intro w3 hG3 hBut
    have hb3 : Below w2.heap.size w2 w3 := ((Below.refl _ w2).alloc (Nat.le_refl _) _).trans (hBut.below (Nat.le_refl _) (by simp))
    have HG3 := Lib.hid hG3
    have HC3 := Lib.hid (HC.out.below hb3 HC.out.lt)
    obtain ⟨gl, hgl⟩ : ∃ gl, gl = w2.heap.size := ⟨_, rfl⟩
    have hglw : w.heap.size < gl := by have := HC.out.lt; omega
    rw [← hgl] at HG3 ⊢
    have a0 : w3.cell? ⟨w.heap.size, 0, none⟩ = some (.int .i64 (Tn : Int)) := HC3.out.cell 0
    have a1 : w3.cell? ⟨w.heap.size, 1, none⟩ = some (.slice A n c) := HC3.out.cell 1
    have q := HC3.out.lt
    have HGL := Lib.hid hgl
    clear hG3 hBut hlen hinfo HC hgl
    go_wp2
    go_loopw [17] (fun i wr => ∃ j : Nat, j ≤ n ∧ i = .int .i64 (j : Int) ∧ Hid (Has wr gl 109 ((lineTo xs (lineL 48) j).map vInt)) ∧ Hid (Has wr w.heap.size 49 [.int .i64 (Tn : Int), .slice A n c, .slice B m d]) ∧ Below w2.heap.size w2 wr) (fun i _ => n - (intOf i).toNat)
    case atStart => exact ⟨0, Nat.zero_le _, rfl, HG3, HC3, hb3⟩
    case round =>
      clear HG3 HC3 hb3 a0 a1 q
      obtain ⟨j, hj, rfl, HG, HC, hb⟩ := hrel
      obtain ⟨wo, rfl⟩ : ∃ wo : World, wo = wr := ⟨_, rfl⟩
      have hz := hb.size
      by_cases hlt : j < n
      · obtain ⟨x, hx⟩ := get_of_lt (l := xs) (k := j) (by rw [HL.out]; exact hlt)
        obtain ⟨r0, r1⟩ := HCR.out x (mem_of_get hx)
        obtain ⟨i, hi⟩ := Int.eq_ofNat_of_zero_le r0
        have hi48 : i + 1 < 48 := by omega
        obtain ⟨va, hva⟩ := get_of_lt (l := lineTo xs (lineL 48) j) (k := i) (by rw [lineTo_len, lineL_len]; omega)
        obtain ⟨vb, hvb⟩ := get_of_lt (l := lineTo xs (lineL 48) j) (k := i + 1) (by rw [lineTo_len, lineL_len]; omega)
        have HS := Lib.hid (lineTo_next hx hi hva hvb)
        obtain ⟨ba, o, rfl, hba, c0, c1, c2, c3⟩ := (HX2.out.up hb) _ x hx
        rw [hi] at c1
        have jn : (j : Int) < (n : Int) := by omega
        obtain ⟨w5, hw5⟩ : ∃ w5, w5 = wo.alloc (.cells #[.int .i64 x.a, .int .i64 (i : Int), .int .i64 x.c, .int .i64 x.d] 83) := ⟨_, rfl⟩
        have hb5 : Below wo.heap.size wo w5 := by rw [hw5]; go_grown
        have K5 : Has w5 wo.heap.size 83 [.int .i64 x.a, .int .i64 (i : Int), .int .i64 x.c, .int .i64 x.d] := by rw [hw5]; exact Has.new rfl
        go_upto_region 8 with (fail)
        rw [← hw5]
        obtain ⟨gx, hgx⟩ : ∃ gx, gx = wo.heap.size := ⟨_, rfl⟩
        rw [← hgx] at K5 ⊢
        have k1 : w5.cell? ⟨gx, 1, none⟩ = some (.int .i64 (i : Int)) := K5.cell 1
        have qx := K5.lt
        have HG5 := Lib.hid (HG.out.below hb5 HG.out.lt)
        have HC5 := Lib.hid (HC.out.below hb5 HC.out.lt)
        have B5 := hb.trans (hb5.mono hz)
        have J := Lib.hid (swap65 gl i _ va vb w5 HG5.out hi48 (by rw [List.getElem?_map, hva]; rfl) (by rw [List.getElem?_map, hvb]; rfl))
        clear hx hi hva hvb r0 r1 c0 c1 c2 c3 hb5 hw5 K5 hgx HG HC hb
        go_wp2_with fail
        refine J.out.mono ?_
        rintro e' w6 ⟨⟨v, rfl⟩, hG6, hK, _⟩
        have hb6 := keepC_below hK (show gl ≤ gl from Nat.le_refl _) (Nat.le_of_lt HG5.out.lt)
        have B6 := B5.trans (hb6.mono (Nat.le_of_eq HGL.out.symm))
        have HC6 := Lib.hid (HC5.out.below hb6 hglw)
        have HG6 : Hid (Has w6 gl 109 ((lineTo xs (lineL 48) (j + 1)).map vInt)) := by
          show Has w6 gl 109 ((lineTo xs (lineL 48) (j + 1)).map vInt)
          rw [HS.out, List.map_set, List.map_set]; exact hG6
        clear hG6 hK hb6
        go_wp2
        go_roundw
        case rel => exact ⟨j + 1, by omega, by go_num, HG6, HC6, B6⟩
        case measure => first | (simp [intOf]; done) | (simp [intOf]; omega)
      · obtain rfl : n = j := by omega
        have a0 : wo.cell? ⟨w.heap.size, 0, none⟩ = some (.int .i64 (Tn : Int)) := HC.out.cell 0
        have q := HC.out.lt
        have qg := HG.out.lt
        have J := Lib.hid (clone48 (some ⟨gl, 0, none⟩) Tn 48 ((lineTo xs (lineL 48) n).take Tn) wo (rdI_take (rdI_hasC HG.out)) (by rw [List.length_take, lineTo_len, lineL_len]; omega) (by omega))
        have B7 := bvia B2 hb
        go_wp2_with fail
        refine J.out.mono ?_
        rintro e' w7 ⟨A7, n7, c7, rfl, r7, l7, hb7⟩
        have HR7 := Lib.hid r7; clear r7
        have hcc := own_caps HR7.out
        go_wp2
        go_ret2
        exact ⟨A7, n7, c7, rfl, own_rd1 HR7.out, l7, hcc.1, hcc.2, bvia B7 hb7⟩
  · have e2 : endsR t xs ps = [] := by unfold endsR; rw [if_neg hE]
    rw [e2]
    generalize ckE t xs ps = r at *
    have hr : (r != 0) = true := by simpa using hE
    clear hE e2
    go_enter Try.func53, Try.ntmps53
    go_wp2_with fail
    refine (C1.out _ (by go_grown)).mono ?_
    rintro e w1 ⟨rfl, hb1⟩
    have B1 := bvia (show Below w.heap.size w _ by go_grown) hb1
    clear K0 hb1 C1
    go_wp2
    go_ret2
    exact ⟨none, 0, 0, rfl, Rd1.nil _ _ _ _, rfl, Nat.le_refl _, by omega, B1⟩
end Go.Proofs.Ytdimfbmbomgiaaa
/-
  Memory words for cloth.Make: what holds of the cloth's block, the line's block and the two rows between two steps.
-/
namespace Go.Proofs.Ytdimfbmbomgiaaa
open Go.RowKit
theorem own_same {w w' : World} {base : Nat} {e : TypeId} {size n : Nat} {v : Value} {xs : List Value} (h : w.ownsRow base e size v n xs) (hs : ∀ g, v.ownBlock = some g → w'.heap[g]? = w.heap[g]?) : w'.ownsRow base e size v n xs := by
  refine ⟨h.1, ?_⟩
  rcases h.2 with hn | ⟨g, cap, cur, rfl, hb, hgg, rest⟩
  · exact .inl hn
  · exact .inr ⟨g, cap, cur, rfl, hb, (hs g rfl).trans hgg, rest⟩
theorem own_mono {w : World} {base base' : Nat} {e : TypeId} {size n : Nat} {v : Value} {xs : List Value} (h : w.ownsRow base e size v n xs) (hb : base' ≤ base) : w.ownsRow base' e size v n xs := by
  refine ⟨h.1, ?_⟩
  rcases h.2 with hn | ⟨g, cap, cur, rfl, hb2, rest⟩
  · exact .inl hn
  · exact .inr ⟨g, cap, cur, rfl, Nat.le_trans hb hb2, rest⟩
/-- V: the world in which the cloth's block was new -/
structure MkI (V W : World) (gc gl bs : Nat) (t : Int) (s : Mk) (X : Option Addr) (nx cx : Nat) (P : Option Addr) (np cp : Nat) : Prop where
  c : Has W gc 49 [.int .i64 t, .slice X nx cx, .slice P np cp]
  g : Has W gl 109 (s.l.map vInt)
  ox : W.ownsRow bs 83 4 (.slice X nx cx) nx (qsC s.xs)
  op : W.ownsRow bs 80 4 (.slice P np cp) np (qsC s.ps)
  b : Below gc V W
  v : gc ≤ V.heap.size
  cl : gc < gl
  ls : gl < bs
  sz : bs ≤ W.heap.size
  nxs : s.xs.length = nx
  nps : s.ps.length = np
/-- a work's own blocks -/
structure MkJ (W : World) (bs gi gw gm : Nat) (i : Int) (x : Wk) (mid : Nat) : Prop where
  i : Has W gi 3 [.int .i64 i]
  w : Has W gw 63 (wkCells x)
  m : Has W gm 3 [.int .i64 (mid : Int)]
  li : bs ≤ gi
  lw : bs ≤ gw
  lm : bs ≤ gm
section
variable {V W W' : World} {gc gl bs : Nat} {t : Int} {s : Mk} {X P : Option Addr} {nx cx np cp : Nat} {gi gw gm : Nat} {i : Int} {x : Wk} {mid : Nat}
theorem MkI.below (h : MkI V W gc gl bs t s X nx cx P np cp) (k : Below W.heap.size W W') : MkI V W' gc gl bs t s X nx cx P np cp :=
  ⟨h.c.below k h.c.lt, h.g.below k h.g.lt, own_below h.ox k, own_below h.op k, h.b.trans (k.mono (Nat.le_of_lt h.c.lt)), h.v, h.cl, h.ls, Nat.le_trans h.sz k.size, h.nxs, h.nps⟩
theorem MkJ.below (h : MkJ W bs gi gw gm i x mid) (k : Below W.heap.size W W') : MkJ W' bs gi gw gm i x mid :=
  ⟨h.i.below k h.i.lt, h.w.below k h.w.lt, h.m.below k h.m.lt, h.li, h.lw, h.lm⟩
theorem MkI.pinned (h : MkI V W gc gl bs t s X nx cx P np cp) {P' : Option Addr} {cp' : Nat} (s' : Mk) (hl : s'.l = s.l) (hx : s'.xs = s.xs) (hn : s'.ps.length = np + 1)
    (hc : Has W' gc 49 [.int .i64 t, .slice X nx cx, .slice P' (np + 1) cp']) (ho : W'.ownsRow bs 80 4 (.slice P' (np + 1) cp') (np + 1) (qsC s'.ps)) (k : KeepP gc (Value.slice P np cp).ownBlock W W') :
    MkI V W' gc gl bs t s' X nx cx P' (np + 1) cp' := by
  have e : ∀ g, g < W.heap.size → g ≠ gc → (Value.slice P np cp).ownBlock ≠ some g → W'.heap[g]? = W.heap[g]? := fun g h1 h2 h3 => k.same g h1 h2 (fun e => h3 e.symm)
  refine ⟨hc, ?_, ?_, ho, ?_, h.v, h.cl, h.ls, Nat.le_trans h.sz k.size, by rw [hx]; exact h.nxs, hn⟩
  · rw [hl]
    exact h.g.same (e gl h.g.lt (by have := h.cl; omega) (h.g.ne_own h.op (by decide)))
  · rw [hx]
    refine own_same h.ox (fun g hg => ?_)
    obtain ⟨h1, h2⟩ := h.ox.lt g hg
    exact e g h2 (by have := h.cl; have := h.ls; omega) (own_apart h.ox h.op (by decide) hg)
  · refine ⟨k.os.trans h.b.os, k.tape.trans h.b.tape, k.output.trans h.b.output, Nat.le_trans h.b.size k.size, fun r hr => ?_⟩
    refine (e r (Nat.lt_trans hr h.c.lt) (by omega) (fun hb => ?_)).trans (h.b.block r hr)
    have := h.op.lt r hb
    have := h.cl; have := h.ls; omega
theorem MkJ.pinned (j : MkJ W bs gi gw gm i x mid) (h : MkI V W gc gl bs t s X nx cx P np cp) (k : KeepP gc (Value.slice P np cp).ownBlock W W') : MkJ W' bs gi gw gm i x mid := by
  have e : ∀ g, g < W.heap.size → bs ≤ g → (Value.slice P np cp).ownBlock ≠ some g → W'.heap[g]? = W.heap[g]? := fun g h1 h2 h3 => k.same g h1 (by have := h.cl; have := h.ls; omega) (fun e => h3 e.symm)
  exact ⟨j.i.same (e gi j.i.lt j.li (j.i.ne_own h.op (by decide))), j.w.same (e gw j.w.lt j.lw (j.w.ne_own h.op (by decide))), j.m.same (e gm j.m.lt j.lm (j.m.ne_own h.op (by decide))), j.li, j.lw, j.lm⟩
/-- a crossing is put behind the row, and the slice into the cloth -/
theorem MkI.crossed (h : MkI V W gc gl bs t s X nx cx P np cp) {X' : Option Addr} {cx' : Nat} (x : Q4) (ho : W'.ownsRow bs 83 4 (.slice X' (nx + 1) cx') (nx + 1) (qsC s.xs ++ q4C x)) (k : W.grownBy W' (Value.slice X nx cx).ownBlock) :
    MkI V (W'.setCell ⟨gc, 1, none⟩ (.slice X' (nx + 1) cx')) gc gl bs t { s with xs := s.xs ++ [x] } X' (nx + 1) cx' P np cp := by
  have e : ∀ g, g < W.heap.size → (Value.slice X nx cx).ownBlock ≠ some g → W'.heap[g]? = W.heap[g]? := fun g h1 h3 => k.block g h1 (fun e => h3 e.symm)
  have hc : Has W' gc _ _ := h.c.same (e gc h.c.lt (h.c.ne_own h.ox (by decide)))
  have hg : Has W' gl _ _ := h.g.same (e gl h.g.lt (h.g.ne_own h.ox (by decide)))
  have hp := h.op.kept k (by cases hv : (Value.slice P np cp).ownBlock with | none => exact .inl rfl | some g => exact .inr (fun e => own_apart h.op h.ox (by decide) hv e.symm))
  have hB := But.set gc W' 1 (.slice X' (nx + 1) cx')
  have hs : W'.heap.size ≤ (W'.setCell ⟨gc, 1, none⟩ (.slice X' (nx + 1) cx')).heap.size := hB.size
  refine ⟨hc.set 1 _, hg.far (by have := h.cl; omega) 1 _, ?_, ?_, ?_, h.v, h.cl, h.ls, Nat.le_trans h.sz (Nat.le_trans k.size hs), by simp [h.nxs], h.nps⟩
  · rw [qsC_app]; exact hB.own ho (hc.ne_own ho (by decide))
  · exact hB.own hp (hc.ne_own hp (by decide))
  · refine (h.b.grown k (Nat.le_of_lt h.c.lt) (fun r hr => ?_)).setCell (Nat.le_refl _) _
    have := (h.ox.lt r hr).1; have := h.cl; have := h.ls; omega
theorem MkJ.crossed (j : MkJ W bs gi gw gm i x mid) (h : MkI V W gc gl bs t s X nx cx P np cp) (k : W.grownBy W' (Value.slice X nx cx).ownBlock) (u : Value) : MkJ (W'.setCell ⟨gc, 1, none⟩ u) bs gi gw gm i x mid := by
  have e : ∀ g, g < W.heap.size → (Value.slice X nx cx).ownBlock ≠ some g → W'.heap[g]? = W.heap[g]? := fun g h1 h3 => k.block g h1 (fun e => h3 e.symm)
  have n : ∀ g, bs ≤ g → g ≠ gc := fun g hg => by have := h.cl; have := h.ls; omega
  exact ⟨(j.i.same (e gi j.i.lt (j.i.ne_own h.ox (by decide)))).far (n gi j.li) 1 _, (j.w.same (e gw j.w.lt (j.w.ne_own h.ox (by decide)))).far (n gw j.lw) 1 _, (j.m.same (e gm j.m.lt (j.m.ne_own h.ox (by decide)))).far (n gm j.lm) 1 _, j.li, j.lw, j.lm⟩
theorem MkI.swapped (h : MkI V W gc gl bs t s X nx cx P np cp) (l' : List Int) (hg : Has W' gl 109 (l'.map vInt)) (k : KeepC gl W W') : MkI V W' gc gl bs t { s with l := l' } X nx cx P np cp := by
  refine ⟨h.c.same (k.same gc h.c.lt (by have := h.cl; omega)), hg, ?_, ?_, ?_, h.v, h.cl, h.ls, Nat.le_trans h.sz k.size, h.nxs, h.nps⟩
  · exact own_same h.ox (fun g hg => k.same g (h.ox.lt g hg).2 (by have := (h.ox.lt g hg).1; have := h.ls; omega))
  · exact own_same h.op (fun g hg => k.same g (h.op.lt g hg).2 (by have := (h.op.lt g hg).1; have := h.ls; omega))
  · exact h.b.trans (keepC_below k (by have := h.cl; omega) (Nat.le_of_lt h.c.lt))
theorem MkJ.swapped (j : MkJ W bs gi gw gm i x mid) (h : MkI V W gc gl bs t s X nx cx P np cp) (k : KeepC gl W W') : MkJ W' bs gi gw gm i x mid := by
  have n : ∀ g, bs ≤ g → g ≠ gl := fun g hg => by have := h.ls; omega
  exact ⟨j.i.same (k.same gi j.i.lt (n gi j.li)), j.w.same (k.same gw j.w.lt (n gw j.lw)), j.m.same (k.same gm j.m.lt (n gm j.lm)), j.li, j.lw, j.lm⟩
end
/-! ### counts -/
theorem crT_len (v : List Int) : ∀ k, (crT v k).length ≤ k
  | 0 => Nat.le_refl _
  | k + 1 => by
    have := crT_len v k
    unfold crT
    split <;> simp <;> omega
theorem crW_len (bs : List UInt8) : ∀ i, (crW bs i).length ≤ 3 * i
  | 0 => Nat.le_refl _
  | i + 1 => by
    have := crW_len bs i
    unfold crW
    split
    · have := crT_len (twV ‹UInt8›) 3
      rw [List.length_append]; omega
    · omega
theorem crT_mem {v : List Int} (hv : ∀ u ∈ v, -1 ≤ u ∧ u ≤ 1) : ∀ k, k ≤ 3 → ∀ n ∈ crT v k, n ≠ 0 ∧ -3 ≤ n ∧ n ≤ 3
  | 0, _, n, h => by simp [crT] at h
  | k + 1, hk, n, h => by
    unfold crT at h
    split at h
    · exact crT_mem hv k (by omega) n h
    · rename_i h0
      rw [List.mem_append] at h
      rcases h with h | h
      · exact crT_mem hv k (by omega) n h
      · simp only [List.mem_singleton] at h
        have hb : -1 ≤ v.getD k 0 ∧ v.getD k 0 ≤ 1 := by
          rw [List.getD_eq_getElem?_getD]
          cases hg : v[k]? with
          | none => simp
          | some u => exact hv u (mem_of_get hg)
        generalize v.getD k 0 = u at *
        have hu : u = 1 ∨ u = -1 := by omega
        rcases hu with rfl | rfl <;> omega
theorem crL_mem (c : UInt8) : ∀ n ∈ crW [c] 1, n ≠ 0 ∧ -3 ≤ n ∧ n ≤ 3 := fun n h => by
  have e : crW [c] 1 = crT (twV c) 3 := rfl
  rw [e] at h
  exact crT_mem (twV_le c) 3 (Nat.le_refl _) n h
theorem Mk.crosses_xs (s : Mk) (i : Int) (mid : Nat) (ns : List Int) : ∀ k, (s.crosses i mid ns k).xs.length ≤ s.xs.length + k
  | 0 => Nat.le_refl _
  | k + 1 => by
    have := Mk.crosses_xs s i mid ns k
    unfold Mk.crosses
    split
    · unfold Mk.cross; simp; omega
    · omega
theorem Mk.crosses_ps (s : Mk) (i : Int) (mid : Nat) (ns : List Int) : ∀ k, (s.crosses i mid ns k).ps = s.ps
  | 0 => rfl
  | k + 1 => by
    unfold Mk.crosses
    split
    · exact Mk.crosses_ps s i mid ns k
    · exact Mk.crosses_ps s i mid ns k
theorem Mk.letter_xs (s : Mk) (i : Int) (mid : Nat) (c : UInt8) : (s.letter i mid c).xs.length ≤ s.xs.length + 3 := by
  unfold Mk.letter
  split
  · exact Nat.le_add_right _ _
  · have := Mk.crosses_xs s i mid (crW [c] 1) (crW [c] 1).length
    have := crW_len [c] 1
    omega
theorem Mk.letter_ps (s : Mk) (i : Int) (mid : Nat) (c : UInt8) : (s.letter i mid c).ps.length ≤ s.ps.length + 1 := by
  unfold Mk.letter
  split
  · unfold Mk.pin; simp
  · rw [Mk.crosses_ps]; exact Nat.le_succ _
theorem Mk.letters_xs (s : Mk) (i : Int) (mid : Nat) (bs : List UInt8) : ∀ k, (s.letters i mid bs k).xs.length ≤ s.xs.length + 3 * k
  | 0 => Nat.le_refl _
  | k + 1 => by
    have := Mk.letters_xs s i mid bs k
    unfold Mk.letters
    split
    · have := Mk.letter_xs (s.letters i mid bs k) i mid ‹UInt8›; omega
    · omega
theorem Mk.letters_ps (s : Mk) (i : Int) (mid : Nat) (bs : List UInt8) : ∀ k, (s.letters i mid bs k).ps.length ≤ s.ps.length + k
  | 0 => Nat.le_refl _
  | k + 1 => by
    have := Mk.letters_ps s i mid bs k
    unfold Mk.letters
    split
    · have := Mk.letter_ps (s.letters i mid bs k) i mid ‹UInt8›; omega
    · omega
theorem Mk.works_xs {ws : List Wk} (h : ∀ x ∈ ws, x.word.size ≤ 16) : ∀ k, (Mk.works ws k).xs.length ≤ 48 * k ∧ (Mk.works ws k).ps.length ≤ 17 * k
  | 0 => ⟨Nat.le_refl _, Nat.le_refl _⟩
  | k + 1 => by
    have ih := Mk.works_xs h k
    unfold Mk.works
    split
    · rename_i x hx
      have h16 : x.word.data.toList.length ≤ 16 := by rw [str_len]; exact h x (mem_of_get hx)
      unfold Mk.work
      split
      · have h1 := Mk.letters_xs ((Mk.works ws k).pin (k : Int) (mkMid x)) (k : Int) (mkMid x) x.word.data.toList x.word.data.toList.length
        have h2 := Mk.letters_ps ((Mk.works ws k).pin (k : Int) (mkMid x)) (k : Int) (mkMid x) x.word.data.toList x.word.data.toList.length
        have e1 : ((Mk.works ws k).pin (k : Int) (mkMid x)).xs.length = (Mk.works ws k).xs.length := rfl
        have e2 : ((Mk.works ws k).pin (k : Int) (mkMid x)).ps.length = (Mk.works ws k).ps.length + 1 := by unfold Mk.pin; simp
        omega
      · have h1 := Mk.letters_xs (Mk.works ws k) (k : Int) (mkMid x) x.word.data.toList x.word.data.toList.length
        have h2 := Mk.letters_ps (Mk.works ws k) (k : Int) (mkMid x) x.word.data.toList x.word.data.toList.length
        omega
    · omega
theorem Mk.works_succ {ws : List Wk} {k : Nat} {x : Wk} (h : ws[k]? = some x) : Mk.works ws (k + 1) = (Mk.works ws k).work k x := by
  show (match ws[k]? with | some x => (Mk.works ws k).work k x | none => Mk.works ws k) = _
  rw [h]
theorem Mk.letters_succ {s : Mk} {i : Int} {mid : Nat} {bs : List UInt8} {k : Nat} {c : UInt8} (h : bs[k]? = some c) : s.letters i mid bs (k + 1) = (s.letters i mid bs k).letter i mid c := by
  show (match bs[k]? with | some c => (s.letters i mid bs k).letter i mid c | none => s.letters i mid bs k) = _
  rw [h]
theorem Mk.crosses_succ {s : Mk} {i : Int} {mid : Nat} {ns : List Int} {k : Nat} {n : Int} (h : ns[k]? = some n) : s.crosses i mid ns (k + 1) = (s.crosses i mid ns k).cross i mid n := by
  show (match ns[k]? with | some n => (s.crosses i mid ns k).cross i mid n | none => s.crosses i mid ns k) = _
  rw [h]
theorem Mk.pin_eq {s : Mk} {i : Int} {mid : Nat} {la lb : Int} (ha : s.l[mid]? = some la) (hb : s.l[mid + 1]? = some lb) : s.pin i mid = { s with ps := s.ps ++ [⟨i, (mid : Int), la, lb⟩] } := by
  unfold Mk.pin
  rw [List.getD_eq_getElem?_getD, List.getD_eq_getElem?_getD, ha, hb]; rfl
theorem pinMk {V W : World} {gc gl bs : Nat} {t : Int} {s : Mk} {X P : Option Addr} {nx cx np cp : Nat} {gi gw gm : Nat} {i : Int} {x : Wk} {mid : Nat} (h : MkI V W gc gl bs t s X nx cx P np cp) (j : MkJ W bs gi gw gm i x mid) (hl : s.l.length = 48) (hmid : mid + 1 < 48) (hnp : np ≤ 1000000) :
    Calls Try.prog 63 #[.pointer (some ⟨gc, 0, none⟩), .pointer (some ⟨gi, 0, none⟩), .pointer (some ⟨gm, 0, none⟩), .pointer (some ⟨gl, 0, none⟩)] W fun e w' => (∃ v, e = .returned v) ∧ ∃ P' c', MkI V w' gc gl bs t (s.pin i mid) X nx cx P' (np + 1) c' ∧ MkJ w' bs gi gw gm i x mid := by
  obtain ⟨la, ha⟩ := get_of_lt (l := s.l) (k := mid) (by omega)
  obtain ⟨lb, hb⟩ := get_of_lt (l := s.l) (k := mid + 1) (by omega)
  have h1 := h.cl; have h2 := h.ls; have h3 := j.li; have h4 := j.lm
  refine (pin38 gc gi gm gl mid np cp bs i la lb _ _ P s.ps _ W h.c j.i j.m h.g (by rw [List.getElem?_map, ha]; rfl) (by rw [List.getElem?_map, hb]; rfl) hmid h.op hnp h.sz (by omega) (by omega) (by omega)).mono ?_
  rintro e w' ⟨hv, P', c', hc, ho, hk⟩
  refine ⟨hv, P', c', h.pinned _ rfl rfl ?_ hc ?_ hk, j.pinned h hk⟩
  · unfold Mk.pin; simp [h.nps]
  · rw [Mk.pin_eq ha hb]; exact ho
theorem slice1 (s : ByteArray) (j : Nat) (h : j < s.size) (W : World) : (Instr.slice 9 (.string s) (some (.int .i64 (j : Int))) (some (.int .i64 ((j : Int) + 1))) none).run Try.prog W = .ok (.string (s.extract j (j + 1))) W := by
  have e := run_slice_string (P := Try.prog) (w := W) 9 s .i64 .i64 (j : Int) ((j : Int) + 1) Try.underlying9 (by omega) (by omega) (by omega)
  rw [e]
  have h1 : ((j : Int)).toNat = j := by omega
  have h2 : ((j : Int) + 1).toNat = j + 1 := by omega
  rw [h1, h2]
theorem ext_ok {s : ByteArray} {j : Nat} (h : j < s.size) (hl : isLet s[j] = true) : (s.extract j (j + 1)).size = 1 ∧ wOk (s.extract j (j + 1)) = true := by
  have e := ext_one s j h
  refine ⟨?_, ?_⟩
  · rw [← str_len, e]; rfl
  · unfold wOk; rw [e]; simp [hl]
/-- the row of a letter's crossings -/
theorem row_crossed {V W W' : World} {gc gl bs : Nat} {t : Int} {s : Mk} {X P : Option Addr} {nx cx np cp n : Nat} {v : Value} {ys : List Value} (r : W.ownsRow bs 3 1 v n ys) (h : MkI V W gc gl bs t s X nx cx P np cp) (k : W.grownBy W' (Value.slice X nx cx).ownBlock) (u : Value) : (W'.setCell ⟨gc, 1, none⟩ u).ownsRow bs 3 1 v n ys := by
  have h1 := r.kept k (by cases hv : v.ownBlock with | none => exact .inl rfl | some g => exact .inr (fun e => own_apart r h.ox (by decide) hv e.symm))
  have hc : Has W' gc _ _ := h.c.same (k.block gc h.c.lt (fun e => (h.c.ne_own h.ox (by decide)) e.symm))
  exact (But.set gc W' 1 u).own h1 (hc.ne_own h1 (by decide))
theorem row_swapped {V W W' : World} {gc gl bs : Nat} {t : Int} {s : Mk} {X P : Option Addr} {nx cx np cp n : Nat} {v : Value} {ys : List Value} (r : W.ownsRow bs 3 1 v n ys) (h : MkI V W gc gl bs t s X nx cx P np cp) (k : KeepC gl W W') : W'.ownsRow bs 3 1 v n ys :=
  own_same r (fun g hg => k.same g (r.lt g hg).2 (by have := (r.lt g hg).1; have := h.ls; omega))
set_option maxRecDepth 100000 in
theorem crossings39o (s : ByteArray) (w : World) (hs : s.size ≤ 16) (hok : wOk s = true) :
    Calls Try.prog 64 #[.string s] w fun e w' => ∃ A n c, e = .returned (.tuple #[.slice A n c, .int .i64 0]) ∧ w'.ownsRow w.heap.size 3 1 (.slice A n c) n ((crW s.data.toList s.size).map vInt) ∧ (crW s.data.toList s.size).length = n ∧ Below w.heap.size w w' := by
  have C1 := Lib.hid (stCheck s w (by omega))
  rw [wchk_ok hs hok] at C1
  have C2 := Lib.hid (crossings62 s w hs hok)
  clear hok
  go_enter Try.func64, Try.ntmps64
  go_wp2_with fail
  refine C1.out.mono ?_
  rintro e w' ⟨rfl, rfl⟩
  go_wp2_with fail
  refine C2.out.mono ?_
  rintro e w2 ⟨A2, n2, c2, rfl, r2, l2, hb2⟩
  have HR := Lib.hid r2; clear r2
  go_wp2
  go_ret2
  exact ⟨A2, n2, c2, rfl, HR.out, l2, hb2⟩
theorem Mk.cross_eq {s : Mk} {i : Int} {mid t : Nat} {u la lb : Int} (h : mkAt mid u = (t : Int)) (ha : s.l[t]? = some la) (hb : s.l[t + 1]? = some lb) : s.cross i mid u = ⟨(s.l.set t lb).set (t + 1) la, s.xs ++ [if u < 0 then ⟨i, (t : Int), lb, la⟩ else ⟨i, (t : Int), la, lb⟩], s.ps⟩ := by
  have ht : ((t : Nat) : Int).toNat = t := by simp
  have e : mkX s.l i mid u = if u < 0 then ⟨i, (t : Int), lb, la⟩ else ⟨i, (t : Int), la, lb⟩ := by
    unfold mkX
    rw [h, ht, List.getD_eq_getElem?_getD, List.getD_eq_getElem?_getD, ha, hb]; rfl
  have e2 : (mkX s.l i mid u).b = (t : Int) := by rw [e]; split <;> rfl
  unfold Mk.cross swapL
  rw [e2, ht, List.getD_eq_getElem?_getD, List.getD_eq_getElem?_getD, ha, hb, e]; rfl
theorem news4 (w : World) (a b c d : Value) (t : TypeId) : ∀ j u, ([a, b, c, d] : List Value)[j]? = some u → (w.alloc (.cells #[a, b, c, d] t)).cell? ⟨w.heap.size, j, none⟩ = some u := fun j _ hu => ((Has.new (w := w) (t := t) (cs := [a, b, c, d]) rfl).cell j).trans hu
theorem one4 (a b c d : Int) : ∀ u ∈ [vInt a, vInt b, vInt c, vInt d], u.oneCell' = true := fun u hu => by
  simp only [List.mem_cons, List.not_mem_nil, or_false] at hu
  rcases hu with rfl | rfl | rfl | rfl <;> rfl
theorem infoCr : (Try.prog.info? 83).map (fun i => (i.zero, i.size, i.bytes)) = some (some (.agg #[.int .i64 0, .int .i64 0, .int .i64 0, .int .i64 0]), 4, 32) := by kernel_rfl
end Go.Proofs.Ytdimfbmbomgiaaa
