/-
  Contract of sheet.Check: the error of a sheet.
-/
import Derived.Test.YtpljaoagiaijiaaV5
import Derived.Test.YtpljaoagiaijiaaV6
namespace Go.Proofs.Ytpljaoagiaijiaa
open Go.RowKit
/-- what sheet.Check has found of the forms of the first k works -/
def formTo (ws : List Wk) (k : Nat) : Int := if (ws.take k).all (fun x => wOk x.word) then 0 else 6
theorem formTo_zero (ws : List Wk) : formTo ws 0 = 0 := by simp [formTo]
theorem formTo_succ {ws : List Wk} {k : Nat} {x : Wk} (hx : ws[k]? = some x) (h16 : x.word.size ≤ 16) : formTo ws (k + 1) = if formTo ws k < wchk x.word then wchk x.word else formTo ws k := by
  unfold formTo
  rw [List.take_add_one, hx, List.all_append]
  cases h : wOk x.word with
  | true => rw [wchk_ok h16 h]; cases hh : (ws.take k).all (fun x => wOk x.word) <;> simp [h]
  | false => rw [wchk_bad h16 h]; cases hh : (ws.take k).all (fun x => wOk x.word) <;> simp [h]
theorem formTo_cases (ws : List Wk) (k : Nat) : formTo ws k = 0 ∨ formTo ws k = 6 := by unfold formTo; split <;> simp
theorem formTo_all (ws : List Wk) (n : Nat) (h : ws.length ≤ n) : formTo ws n = if ws.all (fun x => wOk x.word) then 0 else 6 := by
  unfold formTo; rw [List.take_of_length_le h]
theorem someLong_no {ws : List Wk} (h : someLong ws = false) : ∀ (k : Nat) (x : Wk), ws[k]? = some x → x.word.size ≤ 16 := fun k x hx => by
  unfold someLong at h
  rw [List.any_eq_false] at h
  have := h x (mem_of_get hx)
  simp at this; omega
theorem someLong_yes {ws : List Wk} (h : someLong ws = true) : ∃ (k : Nat) (x : Wk), ws[k]? = some x ∧ 16 < x.word.size := by
  unfold someLong at h
  obtain ⟨x, hx, h⟩ := List.any_eq_true.1 h
  obtain ⟨k, hk, rfl⟩ := List.mem_iff_getElem.1 hx
  exact ⟨k, _, List.getElem?_eq_getElem hk, by simpa using h⟩
theorem wkBad_of2 {p : Int} {x : Wk} (h : (¬ x.kind = 1 ∧ (¬ x.kind = 2 ∨ x.word.toList.isEmpty = false)) ∨ x.at_ < 0 ∨ p - 2 < x.at_) : wkBad p x = true := by
  rcases h with ⟨h1, h2⟩ | h | h
  · by_cases hk : x.kind = 2
    · rcases h2 with h2 | h2
      · exact absurd hk h2
      · exact wkBad_of (.inr (.inr (.inr ⟨hk, by simp [h2]⟩)))
    · exact wkBad_of (.inl ⟨h1, hk⟩)
  · exact wkBad_of (.inr (.inl h))
  · exact wkBad_of (.inr (.inr (.inl h)))
set_option maxRecDepth 100000 in
set_option maxHeartbeats 1000000 in
theorem shCheck (p : Int) (A : Option Addr) (n c : Nat) (ws : List Wk) (w : World) (hn : n ≤ 9223372036854775807) (hw : RdW w w.heap.size A ws) (hl : ws.length = n)
    (hs : ∀ x ∈ ws, x.word.size ≤ 9223372036854775807) :
    Calls Try.prog 36 #[.agg #[.int .i64 p, .slice A n c]] w fun e w' => e = .returned (.int .i64 (schk p ws)) ∧ Below w.heap.size w w' := by
  have HW := Lib.hid hw; clear hw
  have HL := Lib.hid hl; clear hl
  have HS := Lib.hid hs; clear hs
  by_cases hp : 24 < p
  · go_enter Try.func36, Try.ntmps36
    go_wp2
    go_ret
    exact ⟨ret_int (schk_long (.inl hp)).symm, by go_grown⟩
  have hp' : p ≤ 24 := by omega
  clear hp
  by_cases hn4 : 400 < n
  · have hd : decide ((400 : Int) < (n : Int)) = true := by simp; omega
    go_enter Try.func36, Try.ntmps36
    go_wp2
    go_ret
    exact ⟨ret_int (schk_long (.inr (.inl (by rw [HL.out]; exact hn4)))).symm, by go_grown⟩
  have hn4' : n ≤ 400 := by omega
  have hd : decide ((400 : Int) < (n : Int)) = false := by simp; omega
  have hd2 : decide ((24 : Int) < p) = false := by simp; omega
  clear hn4
  cases hlong : someLong ws with
  | true =>
    have H1 := Lib.hid hlong; clear hlong
    go_enter Try.func36, Try.ntmps36
    go_wp2_with (go_at_call 59; refine (containsFunc1 _ _ _ _ _ (by omega) (HW.out.up (by go_grown)) HL.out HS.out).mono ?_; rintro e w1 ⟨rfl, hb1⟩; rw [H1.out])
    go_ret
    exact ⟨ret_int (schk_long (.inr (.inr (someLong_yes H1.out)))).symm, bvia (by go_grown) hb1⟩
  | false =>
    have H1 := Lib.hid hlong; clear hlong
    have H16 : Hid (∀ (j : Nat) (x : Wk), ws[j]? = some x → x.word.size ≤ 16) := someLong_no H1.out
    by_cases h2 : p < 2
    · go_enter Try.func36, Try.ntmps36
      go_wp2_with (go_at_call 59; refine (containsFunc1 _ _ _ _ _ (by omega) (HW.out.up (by go_grown)) HL.out HS.out).mono ?_; rintro e w1 ⟨rfl, hb1⟩; rw [H1.out]; obtain ⟨hc, hf⟩ := bcell hb1)
      go_ret
      exact ⟨ret_int (schk_arg hp' (by rw [HL.out]; exact hn4') H16.out (.inl h2)).symm, bvia (by go_grown) hb1⟩
    have h2' : 2 ≤ p := by omega
    clear h2
    go_enter Try.func36, Try.ntmps36
    go_wp2_with (go_at_call 59; refine (containsFunc1 _ _ _ _ _ (by omega) (HW.out.up (by go_grown)) HL.out HS.out).mono ?_; rintro e w1 ⟨rfl, hb1⟩; rw [H1.out]; obtain ⟨hc, hf⟩ := bcell hb1)
    have hc0 : w1.cell? ⟨w.heap.size, 0, none⟩ = some (.int .i64 p) := by rw [hc _ _ (by simp)]; go_simp
    have hc1 : w1.cell? ⟨w.heap.size, 1, none⟩ = some (.slice A n c) := by rw [hc _ _ (by simp)]; go_simp
    have hbw : Below w.heap.size w w1 := bvia (by go_grown) hb1
    have hz : w.heap.size < w1.heap.size := by have := hb1.size; simp at this; omega
    clear hc hf hb1
    go_loopw [3, 26] (fun f i wr => ∃ k : Nat, k ≤ n ∧ i = .int .i64 k ∧ f = .int .i64 (formTo ws k) ∧ Below w.heap.size w wr ∧ wr.cell? ⟨w.heap.size, 0, none⟩ = some (.int .i64 p) ∧ wr.cell? ⟨w.heap.size, 1, none⟩ = some (.slice A n c) ∧ w.heap.size < wr.heap.size ∧ (∀ (j : Nat) (x : Wk), j < k → ws[j]? = some x → wkBad p x = false)) (fun _ i _ => n - (intOf i).toNat)
    case atStart => exact ⟨0, Nat.zero_le _, rfl, by rw [formTo_zero], hbw, hc0, hc1, hz, fun j _ hj => absurd hj (by omega)⟩
    case round =>
      clear hbw hc0 hc1 hz
      obtain ⟨k, hk, rfl, rfl, hbw, d0, d1, hz, hno⟩ := hrel
      have H := Lib.hid hno; clear hno
      by_cases hlt : k < n
      · obtain ⟨x, hx⟩ := get_of_lt (l := ws) (k := k) (by rw [HL.out]; exact hlt)
        obtain ⟨b, o, rfl, hb, c1, c2, c3⟩ := (HW.out.below hbw (Nat.le_refl _)) k x hx
        have hsx := HS.out x (mem_of_get hx)
        have h16 := H16.out k x hx
        have HF := Lib.hid (formTo_succ hx h16)
        have HX := Lib.hid hx; clear hx
        go_wp2_with (go_at_call 61; refine (stCheck _ _ hsx).mono ?_; rintro e w' ⟨rfl, rfl⟩)
        all_goals first
          | (go_roundw
             case rel => exact ⟨k + 1, by omega, by go_num, by rw [HF.out], by go_grown, by go_simp, by go_simp, by go_grown, get_step H.out HX.out (wkGood_of (by first | exact .inl ‹_› | exact .inr ⟨‹_›, by simp [‹x.word.toList.isEmpty = true›]⟩) (by omega) (by omega))⟩
             case measure => simp [intOf]; omega)
          | (go_ret
             exact ⟨ret_int (schk_arg hp' (by rw [HL.out]; exact hn4') H16.out (.inr ⟨k, x, HX.out, wkBad_of2 (by first | exact .inl ⟨‹_›, .inl ‹_›⟩ | exact .inl ⟨‹_›, .inr ‹_›⟩ | exact .inr (.inl ‹_›) | exact .inr (.inr ‹_›))⟩)).symm, by go_grown⟩)
      · have hn2 : ws.length ≤ k := by rw [HL.out]; omega
        go_wp2
        go_ret
        exact ⟨ret_int (by rw [schk_form hp' (by rw [HL.out]; exact hn4') H16.out h2' (get_all H.out hn2), formTo_all _ _ hn2]), hbw⟩
end Go.Proofs.Ytpljaoagiaijiaa
/-
  Plain law: the threads that the crossings of a cloth without error name are threads of it.
-/
namespace Go.Proofs.Ytpljaoagiaijiaa
open Go.RowKit
theorem endsTo_rng (xs : List Q4) (T : Nat) : ∀ (k : Nat) (L : List Int), endsTo xs (lineL T) k = some L → ∀ v ∈ L, 0 ≤ v ∧ v < (T : Int)
  | 0, L, h => by
    obtain rfl : lineL T = L := by injection h
    intro v hv
    simp [lineL] at hv
    obtain ⟨j, hj, rfl⟩ := hv
    omega
  | k + 1, L, h => by
    cases hE : endsTo xs (lineL T) k with
    | none => rw [show endsTo xs (lineL T) (k + 1) = none from endsTo_none hE _ (Nat.le_succ k)] at h; cases h
    | some L' =>
      have ih := endsTo_rng xs T k L' hE
      cases hx : xs[k]? with
      | none =>
        have : endsTo xs (lineL T) (k + 1) = none := by
          show (endsTo xs (lineL T) k).bind _ = none
          rw [hE, hx]; rfl
        rw [this] at h; cases h
      | some x =>
        rw [endsTo_succ hE hx] at h
        unfold endStep at h
        split at h
        · rename_i a b ha hb
          split at h
          · injection h with h
            subst h
            intro v hv
            rcases List.mem_or_eq_of_mem_set hv with hv | rfl
            · rcases List.mem_or_eq_of_mem_set hv with hv | rfl
              · exact ih v hv
              · exact ih _ (mem_of_get hb)
            · exact ih _ (mem_of_get ha)
          · cases h
        · cases h
theorem endsTo_some {xs : List Q4} {L : List Int} {n : Nat} (h : (endsTo xs L n).isSome = true) {k : Nat} (hk : k ≤ n) : ∃ L', endsTo xs L k = some L' := by
  cases hE : endsTo xs L k with
  | none => rw [endsTo_none hE _ hk] at h; cases h
  | some L' => exact ⟨L', rfl⟩
theorem ends_rng {t : Int} {xs : List Q4} (h0 : 2 ≤ t) (h : endsOk t xs = true) : ∀ x ∈ xs, (0 ≤ x.c ∧ x.c < t) ∧ (0 ≤ x.d ∧ x.d < t) := fun x hm => by
  obtain ⟨k, hk⟩ := List.mem_iff_getElem?.1 hm
  have hlt := lt_of_get hk
  obtain ⟨L, hL⟩ := endsTo_some h (k := k) (by omega)
  obtain ⟨L', hL'⟩ := endsTo_some h (k := k + 1) (by omega)
  have hr := endsTo_rng xs t.toNat k L hL
  rw [endsTo_succ hL hk] at hL'
  unfold endStep at hL'
  split at hL'
  · rename_i a b ha hb
    split at hL'
    · rename_i hok
      have h1 := hr a (mem_of_get ha)
      have h2 := hr b (mem_of_get hb)
      unfold endOk at hok
      simp at hok
      omega
    · cases hL'
  · cases hL'
theorem ckE_ok {t : Int} {xs ps : List Q4} (h : ckE t xs ps = 0) : 2 ≤ t ∧ t ≤ 48 ∧ xs.length ≤ 20000 ∧ ps.length ≤ 6400 ∧ (∀ x ∈ xs, okC t x = true) ∧ (∀ x ∈ ps, okP t x = true) ∧ endsOk t xs = true := by
  unfold ckE at h
  split at h
  · cases h
  · rename_i h1
    split at h
    · cases h
    · rename_i h2
      split at h
      · cases h
      · rename_i h3
        obtain ⟨p1, p2, p3⟩ := numsOk_parts (t := t) (xs := xs) (ps := ps) (by simpa using h2)
        exact ⟨p1, by omega, by omega, by omega, p2, p3, by simpa using h3⟩
/-- what is known of each crossing of a cloth without error -/
theorem cross_ok {t : Int} {xs ps : List Q4} (h : ckE t xs ps = 0) : ∀ x ∈ xs, ((0 ≤ x.c ∧ x.c < t) ∧ (0 ≤ x.d ∧ x.d < t)) ∧ (0 ≤ x.b ∧ x.b ≤ t - 2) := fun x hm => by
  obtain ⟨h0, _, _, _, h1, _, h2⟩ := ckE_ok h
  refine ⟨ends_rng h0 h2 x hm, ?_⟩
  have := h1 x hm
  unfold okC at this
  simp at this
  omega
end Go.Proofs.Ytpljaoagiaijiaa
/-
  Contracts of chapter 17: slices.Contains, the threads that are asked for.
-/
namespace Go.Proofs.Ytpljaoagiaijiaa
open Go.RowKit
/-- a thread of the cloth -/
def inT (t n : Int) : Bool := decide (0 ≤ n) && decide (n ≤ t - 1)
/-- are the first k of some threads threads of the cloth, each but once? -/
def thTo (t : Int) (ths : List Int) : Nat → Bool
  | 0 => true
  | k + 1 => thTo t ths k && (match ths[k]? with | some x => inT t x && !(ths.take k).contains x | none => true)
def askE (t : Int) (xs ps : List Q4) (ths : List Int) : Int := if ckE t xs ps = 0 then (if thTo t ths ths.length = true then 0 else 2) else ckE t xs ps
theorem thTo_succ {t : Int} {ths : List Int} {k : Nat} {x : Int} (h : ths[k]? = some x) : thTo t ths (k + 1) = (thTo t ths k && (inT t x && !(ths.take k).contains x)) := by
  show (thTo t ths k && (match ths[k]? with | some x => inT t x && !(ths.take k).contains x | none => true)) = _
  rw [h]
theorem thTo_no {t : Int} {ths : List Int} {k : Nat} (h : thTo t ths k = false) : ∀ d, thTo t ths (k + d) = false
  | 0 => h
  | d + 1 => by
    have := thTo_no h d
    show (thTo t ths (k + d) && _) = false
    rw [this]; rfl
theorem thTo_bad {t : Int} {ths : List Int} {k : Nat} (h : thTo t ths k = false) (hk : k ≤ ths.length) : thTo t ths ths.length = false := by
  obtain ⟨d, hd⟩ : ∃ d, ths.length = k + d := ⟨ths.length - k, by omega⟩
  rw [hd]; exact thTo_no h d
theorem has_step {l : List Int} {k : Nat} {x v : Int} (hx : l[k]? = some x) : (l.take (k + 1)).contains v = ((l.take k).contains v || (v == x)) := by
  rw [List.take_add_one, hx]
  rw [Bool.eq_iff_iff]
  simp
theorem has_yes {l : List Int} {k : Nat} {x v : Int} (hx : l[k]? = some x) (h : v = x) : l.contains v = true := by
  rw [List.contains_iff_mem, h]; exact mem_of_get hx
set_option maxRecDepth 100000 in
theorem index74 (A : Option Addr) (n c : Nat) (v : Int) (D : List Int) (w : World) (hn : n ≤ 9223372036854775807) (hx : RdI w w.heap.size A D) (hl : D.length = n) :
    Calls Try.prog 74 #[.slice A n c, .int .i64 v] w fun e w' => (∃ r : Int, e = .returned (.int .i64 r) ∧ decide (0 ≤ r) = D.contains v) ∧ w' = w := by
  have HX := Lib.hid hx; clear hx
  have HL := Lib.hid hl; clear hl
  go_enter Try.func74, Try.ntmps74
  go_wp2
  go_loopw [8] (fun i wr => ∃ k : Nat, k ≤ n ∧ i = .int .i64 (k : Int) ∧ Hid ((D.take k).contains v = false) ∧ wr = w) (fun i _ => n - (intOf i).toNat)
  case atStart => exact ⟨0, Nat.zero_le _, rfl, Lib.hid rfl, rfl⟩
  case round =>
    obtain ⟨k, hk, rfl, HA, rfl⟩ := hrel
    obtain ⟨wo, rfl⟩ : ∃ wo : World, wo = wr := ⟨_, rfl⟩
    by_cases hlt : k < n
    · obtain ⟨x, hx⟩ := get_of_lt (l := D) (k := k) (by rw [HL.out]; exact hlt)
      obtain ⟨ba, o, rfl, hba, c0⟩ := HX.out _ x hx
      have HXk := Lib.hid hx; clear hx
      by_cases he : v = x
      · have hd : (v == x) = true := by simpa using he
        have HE := Lib.hid he; clear he
        go_wp2
        go_ret
        exact ⟨⟨k, rfl, by rw [has_yes HXk.out HE.out]; simp⟩, rfl⟩
      · have hd : (v == x) = false := by simpa using he
        have HS : Hid ((D.take (k + 1)).contains v = false) := by
          show (D.take (k + 1)).contains v = false
          rw [has_step HXk.out, HA.out, hd]; rfl
        clear he
        go_wp2
        go_roundw
        case rel => exact ⟨k + 1, by omega, by go_num, HS, by first | rfl | trivial⟩
        case measure => first | (simp [intOf]; done) | (simp [intOf]; omega)
    · obtain rfl : n = k := by omega
      have HB : Hid (D.contains v = false) := by
        have := HA.out
        rw [List.take_of_length_le (by rw [HL.out]; exact Nat.le_refl _)] at this; exact this
      go_wp2
      go_ret
      exact ⟨⟨-1, rfl, by rw [HB.out]; rfl⟩, rfl⟩
set_option maxRecDepth 100000 in
theorem contains66 (A : Option Addr) (n c : Nat) (v : Int) (D : List Int) (w : World) (hn : n ≤ 9223372036854775807) (hx : RdI w w.heap.size A D) (hl : D.length = n) :
    Calls Try.prog 66 #[.slice A n c, .int .i64 v] w fun e w' => e = .returned (.bool (D.contains v)) ∧ w' = w := by
  have C := Lib.hid (index74 A n c v D w hn hx hl); clear hx
  go_enter Try.func66, Try.ntmps66
  go_wp2_with fail
  refine C.out.mono ?_
  rintro e w' ⟨⟨r, rfl, hr⟩, rfl⟩
  have HR := Lib.hid hr; clear hr
  go_wp2
  go_ret
  exact ⟨ret_bool HR.out, rfl⟩
theorem rdI_take {w : World} {B k : Nat} {A : Option Addr} {D : List Int} (h : RdI w B A D) : RdI w B A (D.take k) := fun j x hx => by
  have hj := lt_of_get hx
  rw [List.length_take] at hj
  rw [List.getElem?_take_of_lt (by omega)] at hx
  exact h j x hx
set_option maxRecDepth 100000 in
set_option maxHeartbeats 2000000 in
theorem asked50 (t : Int) (A B T : Option Addr) (n c m d k e : Nat) (xs ps : List Q4) (ths : List Int) (w : World) (hn : n ≤ 9223372036854775807) (hm : m ≤ 9223372036854775807) (hke : k ≤ e) (he : e ≤ 9223372036854775807) (hx : RdQ w w.heap.size A xs) (hp : RdQ w w.heap.size B ps) (hth : RdI w w.heap.size T ths)
    (hl : xs.length = n) (hl' : ps.length = m) (hlt : ths.length = k) (ht0 : -9223372036854775808 ≤ t) :
    Calls Try.prog 50 #[vCloth t A n c B m d, .slice T k e] w fun e w' => e = .returned (.int .i64 (askE t xs ps ths)) ∧ Below w.heap.size w w' := by
  have C1 := Lib.hid (fun (W : World) (hb : Below w.heap.size w W) => check42 t A B n c m d xs ps W hn hm (hx.up hb) (hp.up hb) hl hl' ht0)
  have HT := Lib.hid hth; have HL := Lib.hid hlt
  clear hx hp hth hlt
  have K0 : Has (w.alloc (.cells #[.int .i64 t, .slice A n c, .slice B m d] 30)) w.heap.size 30 [.int .i64 t, .slice A n c, .slice B m d] := Has.new rfl
  by_cases hE : ckE t xs ps = 0
  · have h1 := (ckE_ok hE).1
    have h2 := (ckE_ok hE).2.1
    have hA : Hid (askE t xs ps ths = if thTo t ths ths.length = true then 0 else 2) := by show askE t xs ps ths = _; unfold askE; rw [if_pos hE]
    rw [hE] at C1
    clear hE
    have iw : IntKind.i64.wrap (t - 1) = t - 1 := IntWalk.i64_in _ (by omega)
    go_enter Try.func50, Try.ntmps50
    go_wp2_with fail
    refine (C1.out _ (by go_grown)).mono ?_
    rintro e' w1 ⟨rfl, hb1⟩
    have B1 := bvia (show Below w.heap.size w _ by go_grown) hb1
    have HC := Lib.hid (K0.below hb1 K0.lt)
    have a0 : w1.cell? ⟨w.heap.size, 0, none⟩ = some (.int .i64 t) := HC.out.cell 0
    have q := HC.out.lt
    have HT1 := Lib.hid (HT.out.up B1)
    clear K0 hb1 C1
    go_wp2
    go_loopw [15] (fun i wr => ∃ j : Nat, j ≤ k ∧ i = .int .i64 (j : Int) ∧ Hid (thTo t ths j = true) ∧ wr = w1) (fun i _ => k - (intOf i).toNat)
    case atStart => exact ⟨0, Nat.zero_le _, rfl, Lib.hid rfl, rfl⟩
    case round =>
      obtain ⟨j, hj, rfl, HA, rfl⟩ := hrel
      obtain ⟨wo, rfl⟩ : ∃ wo : World, wo = wr := ⟨_, rfl⟩
      by_cases hlt : j < k
      · obtain ⟨x, hx⟩ := get_of_lt (l := ths) (k := j) (by rw [HL.out]; exact hlt)
        have J := Lib.hid (contains66 T j e x (ths.take j) wo (by omega) (rdI_take HT1.out) (by rw [List.length_take, HL.out]; omega))
        obtain ⟨ba, o, hTT, hba, c0⟩ := HT1.out _ x hx
        have HXk := Lib.hid hx; clear hx
        have jn : (j : Int) < (k : Int) := by omega
        have jk : (j : Int) ≤ (k : Int) := by omega
        have je : (j : Int) ≤ (e : Int) := by omega
        have je' : j ≤ e := by omega
        have jk' : j ≤ k := by omega
        have D := Lib.hid (in56 x 0 (t - 1) (inT t x) wo rfl)
        cases hi : inT t x with
        | false =>
          rw [hi] at D
          have HB : Hid (askE t xs ps ths = 2) := by
            show askE t xs ps ths = 2
            rw [hA.out, if_neg]
            rw [thTo_bad (k := j + 1) (by rw [thTo_succ HXk.out, hi]; simp) (by rw [HL.out]; omega)]; simp
          clear hi
          subst hTT
          go_wp2_with fail
          refine D.out.mono ?_
          rintro e' w2 ⟨rfl, rfl⟩
          go_wp2
          go_ret
          exact ⟨by rw [HB.out]; rfl, B1⟩
        | true =>
          rw [hi] at D
          have HI := Lib.hid hi; clear hi
          cases hcn : (ths.take j).contains x with
          | true =>
            rw [hcn] at J
            have HB : Hid (askE t xs ps ths = 2) := by
              show askE t xs ps ths = 2
              rw [hA.out, if_neg]
              rw [thTo_bad (k := j + 1) (by rw [thTo_succ HXk.out, hcn]; simp) (by rw [HL.out]; omega)]; simp
            clear hcn
            subst hTT
            go_wp2_with fail
            refine D.out.mono ?_
            rintro e' w2 ⟨rfl, rfl⟩
            go_wp2_with fail
            refine J.out.mono ?_
            rintro e' w2 ⟨rfl, rfl⟩
            go_wp2
            go_ret
            exact ⟨by rw [HB.out]; rfl, B1⟩
          | false =>
            rw [hcn] at J
            have HS : Hid (thTo t ths (j + 1) = true) := by
              show thTo t ths (j + 1) = true
              rw [thTo_succ HXk.out, HA.out, HI.out, hcn]; rfl
            clear hcn
            subst hTT
            go_wp2_with fail
            refine D.out.mono ?_
            rintro e' w2 ⟨rfl, rfl⟩
            go_wp2_with fail
            refine J.out.mono ?_
            rintro e' w2 ⟨rfl, rfl⟩
            go_wp2
            go_roundw
            case rel => exact ⟨j + 1, by omega, by go_num, HS, by first | rfl | trivial⟩
            case measure => first | (simp [intOf]; done) | (simp [intOf]; omega)
      · obtain rfl : k = j := by omega
        have HB : Hid (askE t xs ps ths = 0) := by
          show askE t xs ps ths = 0
          rw [hA.out, if_pos (by rw [HL.out]; exact HA.out)]
        go_wp2
        go_ret
        exact ⟨by rw [HB.out]; rfl, B1⟩
  · have e1 : askE t xs ps ths = ckE t xs ps := by unfold askE; rw [if_neg hE]
    rw [e1]
    generalize ckE t xs ps = r at *
    have hr : (r != 0) = true := by simpa using hE
    clear hE e1
    go_enter Try.func50, Try.ntmps50
    go_wp2_with fail
    refine (C1.out _ (by go_grown)).mono ?_
    rintro e' w1 ⟨rfl, hb1⟩
    have B1 := bvia (show Below w.heap.size w _ by go_grown) hb1
    clear K0 hb1 C1
    go_wp2
    go_ret
    exact ⟨rfl, B1⟩
end Go.Proofs.Ytpljaoagiaijiaa
/-
  Contracts of chapter 17: the crossings that all of some threads make; Follow and Meet.
-/
namespace Go.Proofs.Ytpljaoagiaijiaa
open Go.RowKit
/-- does a crossing name a thread? -/
def ofP (x : Q4) (n : Int) : Bool := n == x.c || n == x.d
/-- which of the first k crossings name all of some threads -/
def ofTo (xs : List Q4) (ths : List Int) : Nat → List Int
  | 0 => []
  | k + 1 => match xs[k]? with
    | some x => if ths.all (ofP x) = true then ofTo xs ths k ++ [(k : Int)] else ofTo xs ths k
    | none => ofTo xs ths k
def ofR (t : Int) (xs ps : List Q4) (ths : List Int) : List Int := if askE t xs ps ths = 0 then ofTo xs ths xs.length else []
theorem ofTo_yes {xs : List Q4} {ths : List Int} {k : Nat} {x : Q4} (h : xs[k]? = some x) (ha : ths.all (ofP x) = true) : ofTo xs ths (k + 1) = ofTo xs ths k ++ [(k : Int)] := by
  show (match xs[k]? with | some x => if ths.all (ofP x) = true then ofTo xs ths k ++ [(k : Int)] else ofTo xs ths k | none => ofTo xs ths k) = _
  rw [h]; simp only [ha, if_true]
theorem ofTo_no {xs : List Q4} {ths : List Int} {k : Nat} {x : Q4} (h : xs[k]? = some x) (ha : ths.all (ofP x) = false) : ofTo xs ths (k + 1) = ofTo xs ths k := by
  show (match xs[k]? with | some x => if ths.all (ofP x) = true then ofTo xs ths k ++ [(k : Int)] else ofTo xs ths k | none => ofTo xs ths k) = _
  rw [h]; simp only [ha]; rfl
theorem allP_step {p : Int → Bool} {l : List Int} {k : Nat} {x : Int} (hx : l[k]? = some x) : (l.take (k + 1)).all p = ((l.take k).all p && p x) := by
  rw [List.take_add_one, hx]; simp
theorem allP_no {p : Int → Bool} {l : List Int} {k : Nat} {x : Int} (hx : l[k]? = some x) (h : p x = false) : l.all p = false := by
  rw [List.all_eq_false]; exact ⟨x, mem_of_get hx, by rw [h]; simp⟩
set_option maxRecDepth 100000 in
theorem of65 (n : Int) (x : Q4) (g : Nat) (w : World) (r : Bool) (h : (!(ofP x n)) = r) (K : Has w g 70 [.int .i64 x.a, .int .i64 x.b, .int .i64 x.c, .int .i64 x.d]) :
    Calls Try.prog 65 #[.int .i64 n, .pointer (some ⟨g, 0, none⟩)] w fun e w' => e = .returned (.bool r) ∧ w' = w := by
  have c2 : w.cell? ⟨g, 2, none⟩ = some (.int .i64 x.c) := K.cell 2
  have c3 : w.cell? ⟨g, 3, none⟩ = some (.int .i64 x.d) := K.cell 3
  have q := K.lt
  subst h
  clear K
  by_cases h1 : n = x.c
  · have d1 : (n != x.c) = false := by simpa using h1
    have e : ofP x n = true := by unfold ofP; simp [h1]
    rw [e]
    clear h1 e
    go_enter Try.func65, Try.ntmps65
    go_wp2
    go_ret
    exact ⟨rfl, rfl⟩
  · have d1 : (n != x.c) = true := by simpa using h1
    by_cases h2 : n = x.d
    · have d2 : (n != x.d) = false := by simpa using h2
      have e : ofP x n = true := by unfold ofP; simp [h2]
      rw [e]
      clear h1 h2 e
      go_enter Try.func65, Try.ntmps65
      go_wp2
      go_ret
      exact ⟨rfl, rfl⟩
    · have d2 : (n != x.d) = true := by simpa using h2
      have e : ofP x n = false := by unfold ofP; simp [h1, h2]
      rw [e]
      clear h1 h2 e
      go_enter Try.func65, Try.ntmps65
      go_wp2
      go_ret
      exact ⟨rfl, rfl⟩
set_option maxRecDepth 100000 in
theorem index73 (A : Option Addr) (n c : Nat) (D : List Int) (x : Q4) (g : Nat) (w : World) (hn : n ≤ 9223372036854775807) (hx : RdI w w.heap.size A D) (hl : D.length = n) (K : Has w g 70 [.int .i64 x.a, .int .i64 x.b, .int .i64 x.c, .int .i64 x.d]) :
    Calls Try.prog 73 #[.slice A n c, .func (.func 65) #[] #[.pointer (some ⟨g, 0, none⟩)]] w fun e w' => (∃ r : Int, e = .returned (.int .i64 r) ∧ decide (0 ≤ r) = !D.all (ofP x)) ∧ w' = w := by
  have HX := Lib.hid hx; clear hx
  have HL := Lib.hid hl; clear hl
  have HK := Lib.hid K; clear K
  go_enter Try.func73, Try.ntmps73
  go_wp2
  go_loopw [8] (fun i wr => ∃ k : Nat, k ≤ n ∧ i = .int .i64 (k : Int) ∧ Hid ((D.take k).all (ofP x) = true) ∧ wr = w) (fun i _ => n - (intOf i).toNat)
  case atStart => exact ⟨0, Nat.zero_le _, rfl, Lib.hid rfl, rfl⟩
  case round =>
    obtain ⟨k, hk, rfl, HA, rfl⟩ := hrel
    obtain ⟨wo, rfl⟩ : ∃ wo : World, wo = wr := ⟨_, rfl⟩
    by_cases hlt : k < n
    · obtain ⟨v, hx⟩ := get_of_lt (l := D) (k := k) (by rw [HL.out]; exact hlt)
      obtain ⟨ba, o, rfl, hba, c0⟩ := HX.out _ v hx
      have HXk := Lib.hid hx; clear hx
      cases hB : ofP x v with
      | false =>
        have C := Lib.hid (of65 v x g wo true (by rw [hB]; rfl) HK.out)
        have HB : Hid (D.all (ofP x) = false) := allP_no HXk.out hB
        clear hB
        go_wp2_with fail
        refine C.out.mono ?_
        rintro e w' ⟨rfl, rfl⟩
        go_wp2
        go_ret
        exact ⟨⟨k, rfl, by rw [HB.out]; simp⟩, rfl⟩
      | true =>
        have C := Lib.hid (of65 v x g wo false (by rw [hB]; rfl) HK.out)
        have HS : Hid ((D.take (k + 1)).all (ofP x) = true) := by
          show (D.take (k + 1)).all (ofP x) = true
          rw [allP_step HXk.out, HA.out, hB]; rfl
        clear hB
        go_wp2_with fail
        refine C.out.mono ?_
        rintro e w' ⟨rfl, rfl⟩
        go_wp2
        go_roundw
        case rel => exact ⟨k + 1, by omega, by go_num, HS, by first | rfl | trivial⟩
        case measure => first | (simp [intOf]; done) | (simp [intOf]; omega)
    · obtain rfl : n = k := by omega
      have HB : Hid (D.all (ofP x) = true) := by
        have := HA.out
        rw [List.take_of_length_le (by rw [HL.out]; exact Nat.le_refl _)] at this; exact this
      go_wp2
      go_ret
      exact ⟨⟨-1, rfl, by rw [HB.out]; rfl⟩, rfl⟩
set_option maxRecDepth 100000 in
theorem contains64 (A : Option Addr) (n c : Nat) (D : List Int) (x : Q4) (g : Nat) (w : World) (hn : n ≤ 9223372036854775807) (hx : RdI w w.heap.size A D) (hl : D.length = n) (K : Has w g 70 [.int .i64 x.a, .int .i64 x.b, .int .i64 x.c, .int .i64 x.d]) :
    Calls Try.prog 64 #[.slice A n c, .func (.func 65) #[] #[.pointer (some ⟨g, 0, none⟩)]] w fun e w' => e = .returned (.bool (!D.all (ofP x))) ∧ w' = w := by
  have C := Lib.hid (index73 A n c D x g w hn hx hl K); clear hx K
  go_enter Try.func64, Try.ntmps64
  go_wp2_with fail
  refine C.out.mono ?_
  rintro e w' ⟨⟨r, rfl, hr⟩, rfl⟩
  have HR := Lib.hid hr; clear hr
  go_wp2
  go_ret
  exact ⟨ret_bool HR.out, rfl⟩
set_option maxRecDepth 100000 in
set_option maxHeartbeats 2000000 in
theorem of48 (t : Int) (A B T : Option Addr) (n c m d k e : Nat) (xs ps : List Q4) (ths : List Int) (w : World) (hn : n ≤ 9223372036854775807) (hm : m ≤ 9223372036854775807) (hke : k ≤ e) (he : e ≤ 9223372036854775807) (hx : RdQ w w.heap.size A xs) (hp : RdQ w w.heap.size B ps) (hth : RdI w w.heap.size T ths)
    (hl : xs.length = n) (hl' : ps.length = m) (hlt : ths.length = k) (ht0 : -9223372036854775808 ≤ t) :
    Calls Try.prog 48 #[vCloth t A n c B m d, .slice T k e] w (RetIE (ofR t xs ps ths) (askE t xs ps ths) w) := by
  have C1 := Lib.hid (fun (W : World) (hb : Below w.heap.size w W) => asked50 t A B T n c m d k e xs ps ths W hn hm hke he (hx.up hb) (hp.up hb) (hth.up hb) hl hl' hlt ht0)
  have HX := Lib.hid hx; have HT := Lib.hid hth
  have HL := Lib.hid hl; have HLT := Lib.hid hlt
  clear hx hp hth
  have K0 : Has (w.alloc (.cells #[.int .i64 t, .slice A n c, .slice B m d] 30)) w.heap.size 30 [.int .i64 t, .slice A n c, .slice B m d] := Has.new rfl
  by_cases hE : askE t xs ps ths = 0
  · have hck : ckE t xs ps = 0 := by
      refine Classical.byContradiction fun h => ?_
      unfold askE at hE
      rw [if_neg h] at hE
      exact h hE
    have hn2 : n ≤ 20000 := by have := (ckE_ok hck).2.2.1; rw [hl] at this; exact this
    have hR : ofR t xs ps ths = ofTo xs ths n := by unfold ofR; rw [if_pos hE, hl]
    rw [hR, hE]
    rw [hE] at C1
    clear hR hE hck hl hl' hlt
    go_enter Try.func48, Try.ntmps48
    go_wp2_with fail
    refine (C1.out _ (by go_grown)).mono ?_
    rintro e' w1 ⟨rfl, hb1⟩
    have B1 := bvia (show Below w.heap.size w _ by go_grown) hb1
    have HC := Lib.hid (K0.below hb1 K0.lt)
    have a1 : w1.cell? ⟨w.heap.size, 1, none⟩ = some (.slice A n c) := HC.out.cell 1
    have q := HC.out.lt
    have HX1 := Lib.hid (HX.out.up B1)
    have HT1 := Lib.hid (HT.out.up B1)
    clear K0 hb1 C1 HX HT
    go_wp2
    go_loopw [7, 19] (fun v i wr => ∃ (j l : Nat) (A' : Option Addr) (c' : Nat), j ≤ n ∧ l ≤ j ∧ i = .int .i64 (j : Int) ∧ v = .slice A' l c' ∧ Hid ((ofTo xs ths j).length = l) ∧ Hid (wr.ownsRow w1.heap.size 3 1 v l ((ofTo xs ths j).map vInt)) ∧ Below w1.heap.size w1 wr) (fun _ i _ => n - (intOf i).toNat)
    case atStart => exact ⟨0, 0, none, 0, Nat.zero_le _, Nat.le_refl _, rfl, rfl, Lib.hid rfl, Lib.hid (World.ownsRow_nil _ _ _ _), Below.refl _ _⟩
    case round =>
      clear a1 q
      obtain ⟨j, l, A', c', hj, hlj, rfl, rfl, HLL, HO, hb⟩ := hrel
      obtain ⟨wo, rfl⟩ : ∃ wo : World, wo = wr := ⟨_, rfl⟩
      have hz := hb.size
      by_cases hlt : j < n
      · obtain ⟨x, hx⟩ := get_of_lt (l := xs) (k := j) (by rw [HL.out]; exact hlt)
        obtain ⟨ba, o, rfl, hba, c0, c1, c2, c3⟩ := (HX1.out.up hb) _ x hx
        have HXk := Lib.hid hx; clear hx
        obtain ⟨w5, hw5⟩ : ∃ w5, w5 = wo.alloc (.cells #[.int .i64 x.a, .int .i64 x.b, .int .i64 x.c, .int .i64 x.d] 70) := ⟨_, rfl⟩
        have hb5 : Below wo.heap.size wo w5 := by rw [hw5]; go_grown
        have K5 : Has w5 wo.heap.size 70 [.int .i64 x.a, .int .i64 x.b, .int .i64 x.c, .int .i64 x.d] := by rw [hw5]; exact Has.new rfl
        have J := Lib.hid (contains64 T k e ths x wo.heap.size w5 (by omega) ((HT1.out.up hb).up hb5) HLT.out K5)
        have HO5 := Lib.hid (own_below HO.out hb5)
        have B5 := hb.trans (hb5.mono hz)
        have hz5 := B5.size
        have jn : (j : Int) < (n : Int) := by omega
        cases hB : ths.all (ofP x) with
        | true =>
          have HS := Lib.hid (ofTo_yes HXk.out hB)
          rw [hB] at J
          clear hB HO hb5 K5
          go_wp2_with fail
          rw [← hw5]
          refine J.out.mono ?_
          rintro e' w6 ⟨rfl, rfl⟩
          clear hw5 c0 c1 c2 c3
          go_wp2_with (at_builtin; refine wpList_app rfl (.tmp 28) (.tmp 30) _ rfl w1.heap.size 3 (.int .i64 0) 1 8 Try.underlying35 infoInt rfl (by omega) (by omega) _ _ _ rfl (HO5.out.alloc _) w6.heap.size [vInt (j : Int)] rfl rfl (news_new _ _ _) (one_int _ _) (by omega) (by simp; omega) ?_; intro ga cap1 w7 hg1 hown1 hgrow1 hor1)
          go_roundw
          case rel => exact ⟨j + 1, l + 1, some ⟨ga, 0, none⟩, cap1, by omega, by omega, by go_num, rfl, Lib.hid (by rw [HS.out, List.length_append, HLL.out]; rfl), Lib.hid (by rw [HS.out]; simpa using hown1), (B5.alloc hz5 _).grown hgrow1 (by simp; omega) (fun kk hk => (HO5.out.lt kk hk).1)⟩
          case measure => first | (simp [intOf]; done) | (simp [intOf]; omega)
        | false =>
          have HS := Lib.hid (ofTo_no HXk.out hB)
          rw [hB] at J
          clear hB HO hb5 K5
          go_wp2_with fail
          rw [← hw5]
          refine J.out.mono ?_
          rintro e' w6 ⟨rfl, rfl⟩
          clear hw5 c0 c1 c2 c3
          go_wp2
          go_roundw
          case rel => exact ⟨j + 1, l, A', c', by omega, by omega, by go_num, rfl, Lib.hid (by rw [HS.out, HLL.out]), Lib.hid (by rw [HS.out]; exact HO5.out), B5⟩
          case measure => first | (simp [intOf]; done) | (simp [intOf]; omega)
      · obtain rfl : n = j := by omega
        have hcc := own_caps HO.out
        go_wp2
        go_ret2
        exact ⟨A', l, c', rfl, own_rd1 HO.out, HLL.out, hcc.1, hcc.2, bvia B1 hb⟩
  · have hR : ofR t xs ps ths = [] := by unfold ofR; rw [if_neg hE]
    rw [hR]
    generalize askE t xs ps ths = r at *
    have hr : (r != 0) = true := by simpa using hE
    clear hE hR
    go_enter Try.func48, Try.ntmps48
    go_wp2_with fail
    refine (C1.out _ (by go_grown)).mono ?_
    rintro e' w1 ⟨rfl, hb1⟩
    have B1 := bvia (show Below w.heap.size w _ by go_grown) hb1
    clear K0 hb1 C1
    go_wp2
    go_ret2
    exact ⟨none, 0, 0, rfl, Rd1.nil _ _ _ _, rfl, Nat.le_refl _, by omega, B1⟩
end Go.Proofs.Ytpljaoagiaijiaa
