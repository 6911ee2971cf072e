/-
  Contract of cloth.Linked.
-/
import Derived.Test.YtpljaoagiaijiaaDlf
import Derived.Test.YtpljaoagiaijiaaEnr
namespace Go.Proofs.Ytpljaoagiaijiaa
open Go.RowKit
def linkR (t : Int) (xs ps : List Q4) : List (List Int) := if ckE t xs ps = 0 then setsR xs t.toNat else []
set_option maxRecDepth 100000 in
set_option maxHeartbeats 2000000 in
theorem linked30a (t : Int) (A B : Option Addr) (n c m d : Nat) (xs ps : List Q4) (w : World) (hn : n ≤ 9223372036854775807) (hm : m ≤ 9223372036854775807) (hx : RdQ w w.heap.size A xs) (hp : RdQ w w.heap.size B ps) (hl : xs.length = n) (hl' : ps.length = m) (ht0 : -9223372036854775808 ≤ t) :
    Calls Try.prog 30 #[vCloth t A n c B m d] w fun e w' => ∃ A' n' c', e = .returned (.tuple #[.slice A' n' c', .int .i64 (ckE t xs ps)]) ∧ RdRs w' w'.heap.size A' (linkR t xs ps) ∧ (linkR t xs ps).length = n' ∧ Below w.heap.size w w' := by
  by_cases hE : ckE t xs ps = 0
  · obtain ⟨T, rfl⟩ := Int.eq_ofNat_of_zero_le (show 0 ≤ t by have := (ckE_ok hE).1; omega)
    have h := linked30 T A B n c m d xs ps w hn hm hx hp hl hl' hE delSays
    have hR : linkR (T : Int) xs ps = setsR xs T := by unfold linkR; rw [if_pos hE]; simp
    rw [hE, hR]
    exact h
  · have C1 := Lib.hid (fun (W : World) (hb : Below w.heap.size w W) => check42 t A B n c m d xs ps W hn hm (hx.up hb) (hp.up hb) hl hl' ht0)
    have hR : linkR t xs ps = [] := by unfold linkR; rw [if_neg hE]
    rw [hR]
    generalize ckE t xs ps = r at *
    have hr : (r != 0) = true := by simpa using hE
    clear hE hR hx hp hl hl'
    go_enter Try.func30, Try.ntmps30
    go_wp2_with fail
    refine (C1.out _ (by go_grown)).mono ?_
    rintro e w1 ⟨rfl, hb1⟩
    have B1 : Below w.heap.size w w1 := bvia (show Below w.heap.size w _ by go_grown) hb1
    clear hb1 C1
    go_wp2
    go_ret2
    exact ⟨none, 0, 0, rfl, fun k r hr => by simp at hr, rfl, B1⟩
/-- the two threads of a crossing of a valid cloth are two -/
theorem lineTo_gd {xs : List Q4} (hx : ∀ x ∈ xs, 0 ≤ x.b ∧ x.b ≤ 46) : ∀ (k : Nat), (∀ (i j : Nat) (v : Int), (lineTo xs (lineL 48) k)[i]? = some v → (lineTo xs (lineL 48) k)[j]? = some v → i = j)
  | 0, i, j, v, h1, h2 => by
    have h1 : (lineL 48)[i]? = some v := h1
    have h2 : (lineL 48)[j]? = some v := h2
    have k1 := lt_of_get h1
    have k2 := lt_of_get h2
    rw [lineL_len] at k1 k2
    rw [lineL_get k1] at h1
    rw [lineL_get k2] at h2
    injection h1 with h1; injection h2 with h2; omega
  | k + 1, i, j, v, h1, h2 => by
    have ih := lineTo_gd hx k
    cases h : xs[k]? with
    | none =>
      have e : lineTo xs (lineL 48) (k + 1) = lineTo xs (lineL 48) k := by
        show (match xs[k]? with | some x => swapL (lineTo xs (lineL 48) k) x | none => lineTo xs (lineL 48) k) = _
        rw [h]
      rw [e] at h1 h2
      exact ih i j v h1 h2
    | some x =>
      obtain ⟨x0, x1⟩ := hx x (mem_of_get h)
      obtain ⟨t, ht⟩ := Int.eq_ofNat_of_zero_le x0
      obtain ⟨va, hva⟩ := get_of_lt (l := lineTo xs (lineL 48) k) (k := t) (by rw [lineTo_len, lineL_len]; omega)
      obtain ⟨vb, hvb⟩ := get_of_lt (l := lineTo xs (lineL 48) k) (k := t + 1) (by rw [lineTo_len, lineL_len]; omega)
      rw [lineTo_next h ht hva hvb] at h1 h2
      rw [set2_get hva hvb] at h1 h2
      have := congrArg (tr t) (ih _ _ v h1 h2)
      rwa [tr_tr, tr_tr] at this
theorem cross_ne {T : Nat} {xs ps : List Q4} (hE : ckE (T : Int) xs ps = 0) : ∀ x ∈ xs, x.c ≠ x.d := fun x hm => by
  obtain ⟨g1, g2, g3, g4, g5⟩ := ckE_ends hE
  have hb : ∀ x ∈ xs, 0 ≤ x.b ∧ x.b ≤ (T : Int) - 2 := fun x hx => by have := g4 x hx; unfold okC at this; simp at this; omega
  obtain ⟨k, hk, rfl⟩ := List.mem_iff_getElem.1 hm
  have hx := List.getElem?_eq_getElem hk
  unfold endsOk at g5
  rw [Int.toNat_natCast] at g5
  have hk1 : ∃ L, endsTo xs (lineL T) (k + 1) = some L := by
    cases h : endsTo xs (lineL T) (k + 1) with
    | some L => exact ⟨L, rfl⟩
    | none => rw [endsTo_none h _ (by omega)] at g5; cases g5
  have hk0 : ∃ L, endsTo xs (lineL T) k = some L := by
    cases h : endsTo xs (lineL T) k with
    | some L => exact ⟨L, rfl⟩
    | none => rw [endsTo_none h _ (by omega)] at g5; cases g5
  obtain ⟨L1, h1⟩ := hk1
  obtain ⟨L0, h0⟩ := hk0
  have hL0 := ends_line (by omega) hb k (by omega) L0 h0
  obtain ⟨b0, b1⟩ := hb _ hm
  obtain ⟨t, ht⟩ := Int.eq_ofNat_of_zero_le b0
  obtain ⟨va, hva⟩ := get_of_lt (l := lineTo xs (lineL 48) k) (k := t) (by rw [lineTo_len, lineL_len]; omega)
  obtain ⟨vb, hvb⟩ := get_of_lt (l := lineTo xs (lineL 48) k) (k := t + 1) (by rw [lineTo_len, lineL_len]; omega)
  have hne : va ≠ vb := fun e => by
    have := lineTo_gd (fun x hx => by have := hb x hx; omega) k t (t + 1) va hva (e ▸ hvb)
    omega
  rw [endsTo_succ h0 hx, hL0, endStep_get (i := t) (by rw [ht]; simp) (by rw [List.getElem?_take, if_pos (by omega)]; exact hva) (by rw [List.getElem?_take, if_pos (by omega)]; exact hvb)] at h1
  split at h1
  · rename_i hok
    unfold endOk at hok
    simp only [Bool.or_eq_true, Bool.and_eq_true, beq_iff_eq] at hok
    rcases hok with ⟨e1, e2⟩ | ⟨e1, e2⟩
    · rw [← e1, ← e2]; exact hne
    · rw [← e1, ← e2]; exact Ne.symm hne
  · cases h1
end Go.Proofs.Ytpljaoagiaijiaa
