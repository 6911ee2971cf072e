/-
  Contracts of package stitches: exchanged, Inverse (words with other letters), and of slices.Reverse at bytes.
-/
import Derived.Test.YtnjenggijmbhcaaVK2
import Derived.Test.YtnjenggijmbhcaaVK3
import Derived.Test.YtnjenggijmbhcaaVK4
import Derived.Lib.ConvBytes
import Derived.Laws.BytesArg
namespace Go.Proofs.Ytnjenggijmbhcaa
open Go.RowKit
/-- block g is a row of bytes that a conversion made: these bytes, and what may lie behind them -/
def Byt (w : World) (g : Nat) (l : List UInt8) : Prop :=
  ∃ C : Array Value, w.heap[g]? = some (.cells C 5 (C.size, C.size + 1)) ∧ l.length ≤ C.size ∧ ∀ (j : Nat) (x : UInt8), l[j]? = some x → C[j]? = some (.int .u8 x.toNat)
theorem Byt.lt {w : World} {g : Nat} {l : List UInt8} (h : Byt w g l) : g < w.heap.size := by
  obtain ⟨C, h, _⟩ := h; exact (Array.getElem?_eq_some_iff.1 h).1
theorem Byt.cell {w : World} {g : Nat} {l : List UInt8} (h : Byt w g l) {j : Nat} {x : UInt8} (hx : l[j]? = some x) : w.cell? ⟨g, j, none⟩ = some (.int .u8 x.toNat) := by
  obtain ⟨C, h, _, hc⟩ := h
  simp [World.cell?, h, hc j x hx]
theorem Byt.free {w : World} {g : Nat} {l : List UInt8} (h : Byt w g l) {j : Nat} (hj : j < l.length) : w.frozen? ⟨g, j, none⟩ = false := by
  obtain ⟨C, h, hl, hc⟩ := h
  simp [World.frozen?, h]; omega
theorem Byt.same {w w' : World} {g : Nat} {l : List UInt8} (h : Byt w g l) (e : w'.heap[g]? = w.heap[g]?) : Byt w' g l := by
  obtain ⟨C, h, r⟩ := h; exact ⟨C, e.trans h, r⟩
theorem Byt.set {w : World} {g : Nat} {l : List UInt8} (h : Byt w g l) (j : Nat) (x : UInt8) (u : Value) (hu : u = .int .u8 x.toNat) : Byt (w.setCell ⟨g, j, none⟩ u) g (l.set j x) := by
  subst hu
  obtain ⟨C, h, hl, hc⟩ := h
  refine ⟨C.setIfInBounds j (.int .u8 x.toNat), by simp [World.setCell, Array.getElem?_modify, h], by simpa using hl, fun i y hy => ?_⟩
  rw [List.getElem?_set] at hy
  split at hy
  · rename_i hij
    subst hij
    split at hy
    · injection hy with hy; subst hy
      rw [Array.getElem?_setIfInBounds_self, if_pos (by omega)]
    · cases hy
  · rename_i hij
    rw [Array.getElem?_setIfInBounds_ne hij]
    exact hc i y hy
theorem Byt.new (w : World) (s : ByteArray) : Byt (Lib.bytesWorld w 5 s) w.heap.size s.data.toList := by
  refine ⟨_, Lib.bytesWorld_at_new w _ s, ?_, fun j x hx => ?_⟩
  · simp [Lib.bytesCells]
  · have hj := lt_of_get hx
    simp only [Array.length_toList] at hj
    have : x = s.data[j] := by
      rw [List.getElem?_eq_getElem (by simpa using hj)] at hx
      simpa using (Option.some.inj hx).symm
    subst this
    have hj' : j < s.size := hj
    simp [Lib.bytesCells, Array.getElem?_append, hj']
theorem bytes_below (w : World) (e : TypeId) (s : ByteArray) : Below w.heap.size w (Lib.bytesWorld w e s) := by
  refine ⟨?_, ?_, ?_, by rw [Lib.bytesWorld_size]; omega, fun k hk => Lib.bytesWorld_at_old w e s k hk⟩ <;> (unfold Lib.bytesWorld World.freeze; rfl)
theorem Byt.str {w : World} {g : Nat} {l : List UInt8} (h : Byt w g l) (n c : Nat) (hn : l.length = n) :
    (convert 132 9 (.slice (some ⟨g, 0, none⟩) n c)).run Try.prog w = .ok (.string ⟨l.toArray⟩) w := by
  have := run_convert_bytes_arg (P := Try.prog) w 132 5 Try.underlying132 Try.underlying5 g 0 n c (l.map fun x => (x.toNat : Int)) (by simpa using hn) (fun i hi => by
    have hx : l[i]? = some l[i] := List.getElem?_eq_getElem (by omega)
    rw [Nat.zero_add, h.cell hx, List.getD_eq_getElem?_getD, List.getElem?_map, hx]
    rfl) 9 Try.underlying9
  have e : strOfNums (l.map fun x => (x.toNat : Int)) = ⟨l.toArray⟩ := by
    apply ba_ext
    rw [strOfNums_data, List.map_map]
    have : ((fun n : Int => UInt8.ofNat n.toNat) ∘ fun x : UInt8 => (x.toNat : Int)) = id := by funext x; simp
    rw [this, List.map_id]
  rw [this, e]
/-- the bytes of a word of which k have been exchanged -/
def chgMid (by_ : List UInt8) (s : ByteArray) (k : Nat) : List UInt8 := chgTo by_ s k ++ s.data.toList.drop k
theorem chgMid_zero (by_ : List UInt8) (s : ByteArray) : chgMid by_ s 0 = s.data.toList := by simp [chgMid, chgTo]
theorem chgTo_len' (by_ : List UInt8) (s : ByteArray) (k : Nat) (h : k ≤ s.size) : (chgTo by_ s k).length = k := by
  unfold chgTo; rw [List.length_map, List.length_take, str_len]; omega
theorem chgMid_len (by_ : List UInt8) (s : ByteArray) (k : Nat) (h : k ≤ s.size) : (chgMid by_ s k).length = s.size := by
  unfold chgMid; rw [List.length_append, chgTo_len' _ _ _ h, List.length_drop, str_len]; omega
theorem chgMid_get (by_ : List UInt8) (s : ByteArray) (k : Nat) (h : k < s.size) : (chgMid by_ s k)[k]? = some s[k] := by
  unfold chgMid
  rw [List.getElem?_append_right (by rw [chgTo_len' _ _ _ (by omega)]; exact Nat.le_refl _), chgTo_len' _ _ _ (by omega), List.getElem?_drop, Nat.sub_self, Nat.add_zero, str_get s k h]
theorem chgMid_succ (by_ : List UInt8) (s : ByteArray) (k : Nat) (h : k < s.size) : chgMid by_ s (k + 1) = (chgMid by_ s k).set k (img by_ s[k]) := by
  unfold chgMid
  rw [List.set_append_right _ _ (by rw [chgTo_len' _ _ _ (by omega)]; exact Nat.le_refl _), chgTo_len' _ _ _ (by omega), Nat.sub_self, chgTo_succ _ _ _ h]
  have : s.data.toList.drop k = s[k] :: s.data.toList.drop (k + 1) := by
    rw [List.drop_eq_getElem_cons (by rw [str_len]; exact h)]; rfl
  rw [this, List.set_cons_zero]
  simp
theorem chgMid_all (by_ : List UInt8) (s : ByteArray) (k : Nat) (h : s.size ≤ k) : chgMid by_ s k = s.data.toList.map (img by_) := by
  unfold chgMid
  rw [chgTo_all _ _ _ h, List.drop_of_length_le (by rw [str_len]; exact h), List.append_nil]
set_option maxRecDepth 100000 in
set_option maxHeartbeats 1000000 in
theorem stExch (s t : ByteArray) (w : World) (hs : s.size ≤ 9223372036854775807) (ht : t.size = 9) (h16 : s.size ≤ 16) (hok : wOk s = true) :
    Calls Try.prog 96 #[.string s, .string t] w fun e w' => e = .returned (.tuple #[.string (chg t.data.toList s), .int .i64 0]) ∧ Below w.heap.size w w' := by
  have HC := Lib.hid (wchk_ok h16 hok)
  have HO := Lib.hid hok; clear hok
  have ht1 : t.size ≤ 9 := by omega
  have ht2 : 9 ≤ t.size := by omega
  clear ht
  have kc := fun W => Lib.run_convert_string_bytes (P := Try.prog) W 9 132 5 s Try.underlying9 Try.underlying132 Try.underlying5
  go_enter Try.func96, Try.ntmps96
  go_wp2_with (go_at_call 64; refine (stCheck _ _ hs).mono ?_; rintro e w' ⟨rfl, rfl⟩; rw [HC.out])
  clear kc
  go_loopw [19] (fun i wr => ∃ k : Nat, k ≤ s.size ∧ i = .int .i64 k ∧ Byt wr w.heap.size (chgMid t.data.toList s k) ∧ Below w.heap.size w wr) (fun i _ => s.size - (intOf i).toNat)
  case atStart => exact ⟨0, Nat.zero_le _, rfl, by rw [chgMid_zero]; exact Byt.new w s, bytes_below _ _ _⟩
  case round =>
    obtain ⟨k, hk, rfl, hby, hbw⟩ := hrel
    have HB := Lib.hid hby; clear hby
    by_cases hlt : k < s.size
    · have hl := wOk_get HO.out k hlt
      have h0 := (isLet_iff _).1 hl
      have h8 := idx_lt9 s[k]
      clear hl
      obtain ⟨m, hm⟩ := Int.eq_ofNat_of_zero_le h0
      have hm8 : m ≤ 8 := by omega
      have hmt : m < t.size := by omega
      have HM := Lib.hid hm; clear hm h0 h8
      have c0 := HB.out.cell (chgMid_get t.data.toList s k hlt)
      have f0 := HB.out.free (j := k) (by rw [chgMid_len _ _ _ hk]; exact hlt)
      have HT : Hid (img t.data.toList s[k] = t[m]) := img_at HM.out hmt
      go_wp2_with (go_at_call 95; refine (strIndex_let _ _).mono ?_; rintro e w' ⟨rfl, rfl⟩; rw [HM.out])
      go_roundw
      case rel =>
        refine ⟨k + 1, by omega, by go_num, ?_, hbw.setCell (Nat.le_refl _) _⟩
        rw [chgMid_succ _ _ _ hlt]
        exact HB.out.set k _ _ (by rw [HT.out])
      case measure => simp [intOf]; omega
    · obtain rfl : k = s.size := by omega
      have kd := HB.out.str s.size (grownCap w s.size 0 5) (chgMid_len _ _ _ hk)
      go_wp2
      go_ret2
      exact ⟨by rw [chgMid_all _ _ _ (Nat.le_refl _)]; rfl, hbw⟩
set_option maxRecDepth 100000 in
set_option maxHeartbeats 1000000 in
theorem stExch_bad (s t : ByteArray) (w : World) (hs : s.size ≤ 9223372036854775807) (h0 : wchk s ≠ 0) :
    Calls Try.prog 96 #[.string s, .string t] w fun e w' => e = .returned (.tuple #[.string ⟨#[]⟩, .int .i64 (wchk s)]) ∧ Below w.heap.size w w' := by
  have hne : (wchk s != 0) = true := by simpa using h0
  have hne' : (wchk s == 0) = false := by simpa using h0
  clear h0
  go_enter Try.func96, Try.ntmps96
  go_wp2_with (go_at_call 64; refine (stCheck _ _ hs).mono ?_; rintro e w' ⟨rfl, rfl⟩)
  go_ret2
  exact ⟨rfl, by go_grown⟩
/-! ### slices.Reverse -/
/-- a list of which the first i and the last i have been exchanged -/
def revMid {α : Type} (l : List α) (i : Nat) : List α := (l.reverse.take i ++ (l.drop i).take (l.length - 2 * i)) ++ l.reverse.drop (l.length - i)
theorem revMid_zero {α : Type} (l : List α) : revMid l 0 = l := by
  unfold revMid
  simp [List.take_of_length_le, List.drop_of_length_le]
theorem revMid_len {α : Type} (l : List α) (i : Nat) (h : 2 * i ≤ l.length) : (revMid l i).length = l.length := by
  unfold revMid
  simp only [List.length_append, List.length_take, List.length_reverse, List.length_drop]
  omega
theorem revMid_get {α : Type} (l : List α) (i j : Nat) (h : 2 * i ≤ l.length) (hj : j < l.length) : (revMid l i)[j]? = if j < i ∨ l.length - i ≤ j then l[l.length - 1 - j]? else l[j]? := by
  unfold revMid
  have e1 : (l.reverse.take i).length = i := by simp; omega
  have e2 : (l.reverse.take i ++ (l.drop i).take (l.length - 2 * i)).length = l.length - i := by simp; omega
  rcases Nat.lt_or_ge j (l.length - i) with h1 | h1
  · rw [List.getElem?_append_left (by rw [e2]; exact h1)]
    rcases Nat.lt_or_ge j i with h2 | h2
    · rw [List.getElem?_append_left (by rw [e1]; exact h2), if_pos (.inl h2), List.getElem?_take, if_pos h2, List.getElem?_reverse hj]
    · rw [List.getElem?_append_right (by rw [e1]; exact h2), e1, if_neg (by omega), List.getElem?_take, if_pos (by omega), List.getElem?_drop]
      congr 1; omega
  · rw [List.getElem?_append_right (by rw [e2]; exact h1), e2, if_pos (.inr h1), List.getElem?_drop, List.getElem?_reverse (by omega)]
    congr 1; omega
theorem revMid_succ {α : Type} (l : List α) (i : Nat) (h : 2 * i + 1 < l.length) {x y : α} (hx : (revMid l i)[i]? = some x) (hy : (revMid l i)[l.length - 1 - i]? = some y) :
    revMid l (i + 1) = ((revMid l i).set i y).set (l.length - 1 - i) x := by
  apply List.ext_getElem?
  intro j
  rcases Nat.lt_or_ge j l.length with hj | hj
  · rw [revMid_get l (i + 1) j (by omega) hj, List.getElem?_set, List.getElem?_set, List.length_set, revMid_len l i (by omega)]
    rw [revMid_get l i i (by omega) (by omega), if_neg (by omega)] at hx
    rw [revMid_get l i (l.length - 1 - i) (by omega) (by omega), if_neg (by omega)] at hy
    by_cases h1 : l.length - 1 - i = j
    · subst h1
      rw [if_pos (.inr (by omega)), if_pos rfl, if_pos (by omega), ← hx]
      congr 1; omega
    · rw [if_neg h1]
      by_cases h2 : i = j
      · subst h2
        rw [if_pos (.inl (by omega)), if_pos rfl, if_pos (by omega), ← hy]
      · rw [if_neg h2, revMid_get l i j (by omega) hj]
        by_cases h3 : j < i + 1 ∨ l.length - (i + 1) ≤ j
        · rw [if_pos h3, if_pos (by omega)]
        · rw [if_neg h3, if_neg (by omega)]
  · rw [List.getElem?_eq_none (by rw [revMid_len l (i + 1) (by omega)]; exact hj), List.getElem?_eq_none (by rw [List.length_set, List.length_set, revMid_len l i (by omega)]; exact hj)]
theorem revMid_all {α : Type} (l : List α) (i : Nat) (h : 2 * i ≤ l.length) (h2 : l.length ≤ 2 * i + 1) : revMid l i = l.reverse := by
  apply List.ext_getElem?
  intro j
  rcases Nat.lt_or_ge j l.length with hj | hj
  · rw [revMid_get l i j h hj, List.getElem?_reverse hj]
    by_cases h3 : j < i ∨ l.length - i ≤ j
    · rw [if_pos h3]
    · rw [if_neg h3]; congr 1; omega
  · rw [List.getElem?_eq_none (by rw [revMid_len l i h]; exact hj), List.getElem?_eq_none (by simpa using hj)]
set_option maxRecDepth 100000 in
set_option maxHeartbeats 1000000 in
theorem slReverse (g n c : Nat) (l : List UInt8) (w : World) (hb : Byt w g l) (hn : l.length = n) (h4 : n ≤ 4096) :
    Calls Try.prog 97 #[.slice (some ⟨g, 0, none⟩) n c] w fun e w' => e = .returned (.tuple #[]) ∧ Byt w' g l.reverse ∧ But g w w' := by
  have HB := Lib.hid hb; clear hb
  have HN := Lib.hid hn; clear hn
  go_enter Try.func97, Try.ntmps97
  go_wp2
  go_loopw [2, 3] (fun a b wr => ∃ i : Nat, 2 * i ≤ n ∧ a = .int .i64 (i : Int) ∧ b = .int .i64 ((n : Int) - 1 - (i : Int)) ∧ Byt wr g (revMid l i) ∧ But g w wr) (fun a _ _ => n - (intOf a).toNat)
  case atStart => exact ⟨0, by omega, rfl, by go_num, by rw [revMid_zero]; exact HB.out, But.refl _ _⟩
  case round =>
    obtain ⟨i, hi, rfl, rfl, hby, hbt⟩ := hrel
    have HY := Lib.hid hby; clear hby
    have HL := Lib.hid (revMid_len l i (by rw [HN.out]; exact hi))
    by_cases hlt : 2 * i + 1 < n
    · obtain ⟨x, hx⟩ := get_of_lt (l := revMid l i) (k := i) (by rw [HL.out, HN.out]; omega)
      obtain ⟨y, hy⟩ := get_of_lt (l := revMid l i) (k := n - 1 - i) (by rw [HL.out, HN.out]; omega)
      have c0 := HY.out.cell hx
      have c1 := HY.out.cell hy
      have f0 := HY.out.free (j := i) (by rw [HL.out, HN.out]; omega)
      have f1 := HY.out.free (j := n - 1 - i) (by rw [HL.out, HN.out]; omega)
      have HX := Lib.hid hx; clear hx
      have HY2 := Lib.hid hy; clear hy
      obtain ⟨j, hj⟩ : ∃ j : Nat, j = n - 1 - i := ⟨_, rfl⟩
      have hj2 : (n : Int) - 1 - (i : Int) = (j : Int) := by omega
      rw [← hj] at c1 f1
      have hij : i < j := by omega
      have hjn : j < n := by omega
      have HJ := Lib.hid hj; clear hj
      rw [hj2]
      have HJ2 := Lib.hid hj2; clear hj2
      go_wp2
      go_region
      all_goals go_wp2
      go_roundw
      case rel =>
        refine ⟨i + 1, by omega, by go_num, by have := HJ2.out; go_num, ?_, ?_⟩
        · have e := revMid_succ l i (by rw [HN.out]; exact hlt) HX.out (by rw [HN.out]; exact HY2.out)
          rw [HN.out, ← HJ.out] at e
          rw [e]
          exact ((HY.out.set i y _ rfl).set j x _ rfl)
        · exact hbt.trans (((But.set _ _ _ _).trans (But.set _ _ _ _)).drew)
      case measure => simp [intOf]; omega
    · go_wp2
      go_end0
      exact ⟨rfl, by have e := revMid_all l i (by rw [HN.out]; exact hi) (by rw [HN.out]; omega); rw [← e]; exact HY.out, hbt⟩
theorem revL_inv (s : ByteArray) (h : wchk s = 0) : (⟨((chg undoes s).data.toList.reverse).toArray⟩ : ByteArray) = invW s := by
  unfold invW; rw [if_pos h]; rfl
set_option maxRecDepth 100000 in
set_option maxHeartbeats 1000000 in
theorem stInv (s : ByteArray) (w : World) (hs : s.size ≤ 9223372036854775807) :
    Calls Try.prog 65 #[.string s] w fun e w' => e = .returned (.tuple #[.string (invW s), .int .i64 (wchk s)]) ∧ Below w.heap.size w w' := by
  by_cases h0 : wchk s = 0
  · obtain ⟨h16, hok⟩ := wchk_zero h0
    have HE := Lib.hid (revL_inv s h0)
    have H0 := Lib.hid h0; clear h0
    have hz : (chg undoes s).size ≤ 16 := by rw [chg_size]; exact h16
    have C := Lib.hid (fun w => stExch s ⟨#[99, 116, 108, 114, 80, 67, 84, 76, 82]⟩ w hs rfl h16 hok)
    clear hok
    rw [H0.out, ← HE.out]
    generalize hc : chg undoes s = u at *
    have HC := Lib.hid hc; clear hc
    have kc := fun W => Lib.run_convert_string_bytes (P := Try.prog) W 9 132 5 u Try.underlying9 Try.underlying132 Try.underlying5
    go_enter Try.func65, Try.ntmps65
    go_wp2_with fail
    refine (C.out _).mono ?_
    rintro e w1 ⟨rfl, hb1⟩
    rw [show chg (ByteArray.mk #[99, 116, 108, 114, 80, 67, 84, 76, 82]).data.toList s = u from HC.out]
    go_wp2_with fail
    refine (slReverse w1.heap.size u.size _ u.data.toList _ (Byt.new w1 u) (str_len u) (by omega)).mono ?_
    rintro e w2 ⟨rfl, hb2, hb3⟩
    have kd := hb2.str u.size (grownCap w1 u.size 0 5) (by rw [List.length_reverse]; exact str_len u)
    clear kc
    go_wp2
    go_ret2
    exact ⟨rfl, hb1.trans (((bytes_below w1 _ u).mono hb1.size).trans (hb3.below hb1.size (by rw [Lib.bytesWorld_size]; have := hb1.size; omega)))⟩
  · have HE : Hid (invW s = ⟨#[]⟩) := by unfold invW; rw [if_neg h0]; rfl
    rw [HE.out]
    have C := Lib.hid (fun t w => stExch_bad s t w hs h0)
    clear h0
    have kc := fun W => Lib.run_convert_string_bytes (P := Try.prog) W 9 132 5 ⟨#[]⟩ Try.underlying9 Try.underlying132 Try.underlying5
    generalize wchk s = q at *
    go_enter Try.func65, Try.ntmps65
    go_wp2_with fail
    refine (C.out _ _).mono ?_
    rintro e w1 ⟨rfl, hb1⟩
    go_wp2_with fail
    refine (slReverse w1.heap.size 0 _ [] _ (Byt.new w1 ⟨#[]⟩) rfl (by omega)).mono ?_
    rintro e w2 ⟨rfl, hb2, hb3⟩
    have kd := hb2.str 0 (grownCap w1 0 0 5) rfl
    clear kc
    go_wp2
    go_ret2
    exact ⟨rfl, hb1.trans (((bytes_below w1 _ _).mono hb1.size).trans (hb3.below hb1.size (by rw [Lib.bytesWorld_size]; have := hb1.size; omega)))⟩
set_option maxRecDepth 100000 in
set_option maxHeartbeats 400000 in
theorem unUndoing (k a : Int) (s : ByteArray) (w : World) (hs : s.size ≤ 9223372036854775807) :
    Calls Try.prog 42 #[.agg #[.int .i64 k, .int .i64 a, .string s]] w fun e w' => e = .returned (.agg #[.int .i64 k, .int .i64 a, .string (invW s)]) ∧ Below w.heap.size w w' := by
  go_enter Try.func42, Try.ntmps42
  go_wp2_with fail
  refine (stInv _ _ hs).mono ?_
  rintro e w1 ⟨rfl, hb1⟩
  have d0 : w1.cell? ⟨w.heap.size, 0, none⟩ = some (.int .i64 k) := by rw [hb1.cell (by simp; omega)]; go_simp
  have fd0 : w1.frozen? ⟨w.heap.size, 0, none⟩ = false := by rw [hb1.frozen (by simp; omega)]; go_simp
  have d1 : w1.cell? ⟨w.heap.size, 1, none⟩ = some (.int .i64 a) := by rw [hb1.cell (by simp; omega)]; go_simp
  have fd1 : w1.frozen? ⟨w.heap.size, 1, none⟩ = false := by rw [hb1.frozen (by simp; omega)]; go_simp
  have d2 : w1.cell? ⟨w.heap.size, 2, none⟩ = some (.string s) := by rw [hb1.cell (by simp; omega)]; go_simp
  have fd2 : w1.frozen? ⟨w.heap.size, 2, none⟩ = false := by rw [hb1.frozen (by simp; omega)]; go_simp
  have e0 : w1.cell? ⟨w.heap.size + 1, 0, none⟩ = some (.int .i64 0) := by rw [hb1.cell (by simp)]; go_simp
  have fe0 : w1.frozen? ⟨w.heap.size + 1, 0, none⟩ = false := by rw [hb1.frozen (by simp)]; go_simp
  have e1 : w1.cell? ⟨w.heap.size + 1, 1, none⟩ = some (.int .i64 0) := by rw [hb1.cell (by simp)]; go_simp
  have fe1 : w1.frozen? ⟨w.heap.size + 1, 1, none⟩ = false := by rw [hb1.frozen (by simp)]; go_simp
  have e2 : w1.cell? ⟨w.heap.size + 1, 2, none⟩ = some (.string ⟨#[]⟩) := by rw [hb1.cell (by simp)]; go_simp
  have fe2 : w1.frozen? ⟨w.heap.size + 1, 2, none⟩ = false := by rw [hb1.frozen (by simp)]; go_simp
  go_wp2
  have h1 : Has w1 (w.heap.size + 1) 26 [.int .i64 0, .int .i64 0, .string ⟨#[]⟩] := by
    have := Has.new (w := w.alloc (.cells #[.int .i64 k, .int .i64 a, .string s] 26)) (arr := #[.int .i64 0, .int .i64 0, .string ⟨#[]⟩]) (t := 26) (cs := [.int .i64 0, .int .i64 0, .string ⟨#[]⟩]) rfl
    simp only [World.size_alloc] at this
    exact this.below hb1 (by simp)
  refine post_cell ((((h1.far (by omega) _ _).set 0 _).set 1 _).set 2 _) Try.results42 rfl rfl Try.underlying26 (by kernel_rfl) ?_
  exact ⟨rfl, by refine Below.setCell (Below.setCell (Below.setCell (Below.setCell (bvia (by go_grown) hb1) ?_ _) ?_ _) ?_ _) ?_ _ <;> simp⟩
end Go.Proofs.Ytnjenggijmbhcaa
