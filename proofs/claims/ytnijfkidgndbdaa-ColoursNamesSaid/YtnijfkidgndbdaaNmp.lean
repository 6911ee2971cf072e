/-
  Plain law of chapter 21: colours by other names are seen, lie behind and stand in line as those they stand for.
-/
import Derived.Test.YtnijfkidgndbdaaPar
namespace Go.Proofs.Ytnijfkidgndbdaa
open Go.RowKit
theorem renC_rng {ns : List Int} {v : Int} (hb : ∀ y ∈ ns, 0 ≤ y ∧ y ≤ 255) : 0 ≤ renC ns v ∧ renC ns v < 16 := by
  unfold renC
  rw [List.getD_eq_getElem?_getD]
  cases hx : ns[v.toNat]? with
  | none => simp
  | some y =>
    have := hb y (mem_of_get hx)
    obtain ⟨n, rfl⟩ := Int.eq_ofNat_of_zero_le this.1
    show 0 ≤ ((n % 16 : Nat) : Int) ∧ ((n % 16 : Nat) : Int) < 16
    have := Nat.mod_lt n (show 16 > 0 by omega)
    omega
theorem renL_len (ns xs : List Int) : (renL ns xs).length = xs.length := by simp [renL]
theorem renL_get {ns xs : List Int} {k : Nat} {x : Int} (h : xs[k]? = some x) : (renL ns xs)[k]? = some (renC ns x) := by unfold renL; rw [List.getElem?_map, h]; rfl
theorem renL_getD {ns xs : List Int} {k : Nat} (h : k < xs.length) : (renL ns xs).getD k 0 = renC ns (xs.getD k 0) := by
  obtain ⟨x, hx⟩ := get_of_lt h
  rw [List.getD_eq_getElem?_getD, List.getD_eq_getElem?_getD, renL_get hx, hx]; rfl
theorem renL_col {ns xs : List Int} (hb : ∀ y ∈ ns, 0 ≤ y ∧ y ≤ 255) : ∀ y ∈ renL ns xs, 0 ≤ y ∧ y < 16 := fun y hy => by
  unfold renL at hy
  obtain ⟨z, _, rfl⟩ := List.mem_map.1 hy
  exact renC_rng hb
theorem chkE_ren {t : Int} {xs ps : List Q4} {ds ns : List Int} (h : chkE t xs ps ds = 0) (hb : ∀ y ∈ ns, 0 ≤ y ∧ y ≤ 255) : chkE t xs ps (renL ns ds) = 0 := by
  obtain ⟨g1, g2, g3⟩ := chkE_ok h
  exact chkE_of h (by rw [renL_len]; exact g2) (colOk_of (renL_col hb))
theorem over_ren {t : Int} {xs ps : List Q4} {ds ns : List Int} (h : chkE t xs ps ds = 0) : overL xs (renL ns ds) = renL ns (overL xs ds) := by
  obtain ⟨g1, g2, g3⟩ := chkE_ok h
  show xs.map _ = (xs.map _).map _
  rw [List.map_map]
  apply List.map_congr_left
  intro x hx
  obtain ⟨⟨⟨q1, q2⟩, _⟩, _⟩ := cross_ok g1 x hx
  exact renL_getD (by omega)
theorem under_ren {t : Int} {xs ps : List Q4} {ds ns : List Int} (h : chkE t xs ps ds = 0) : underL xs (renL ns ds) = renL ns (underL xs ds) := by
  obtain ⟨g1, g2, g3⟩ := chkE_ok h
  show xs.map _ = (xs.map _).map _
  rw [List.map_map]
  apply List.map_congr_left
  intro x hx
  obtain ⟨⟨_, ⟨q1, q2⟩⟩, _⟩ := cross_ok g1 x hx
  exact renL_getD (by omega)
theorem under_col {t : Int} {xs ps : List Q4} {ds : List Int} (h : chkE t xs ps ds = 0) : ∀ y ∈ underL xs ds, 0 ≤ y ∧ y < 16 := fun y hy => by
  unfold underL at hy
  obtain ⟨z, hz, rfl⟩ := List.mem_map.1 hy
  obtain ⟨g1, g2, g3⟩ := chkE_ok h
  obtain ⟨⟨_, ⟨q1, q2⟩⟩, _⟩ := cross_ok g1 z hz
  exact col_get g3 _ (by omega)
theorem eqTo_mem {a b : List Int} {i : Int} : ∀ {k : Nat}, i ∈ eqTo a b k ↔ ∃ j : Nat, i = (j : Int) ∧ j < k ∧ a[j]? = b[j]?
  | 0 => by simp [eqTo]
  | k + 1 => by
    have ih := eqTo_mem (a := a) (b := b) (i := i) (k := k)
    show i ∈ (if a[k]? = b[k]? then eqTo a b k ++ [(k : Int)] else eqTo a b k) ↔ _
    by_cases h : a[k]? = b[k]?
    · rw [if_pos h, List.mem_append, ih]
      constructor
      · rintro (⟨j, h1, h2, h3⟩ | h1)
        · exact ⟨j, h1, by omega, h3⟩
        · simp at h1
          exact ⟨k, h1, by omega, h⟩
      · rintro ⟨j, h1, h2, h3⟩
        by_cases hj : j < k
        · exact .inl ⟨j, h1, hj, h3⟩
        · obtain rfl : j = k := by omega
          exact .inr (by simp [h1])
    · rw [if_neg h, ih]
      constructor
      · rintro ⟨j, h1, h2, h3⟩; exact ⟨j, h1, by omega, h3⟩
      · rintro ⟨j, h1, h2, h3⟩
        refine ⟨j, h1, ?_, h3⟩
        by_cases hj : j < k
        · exact hj
        · obtain rfl : j = k := by omega
          exact absurd h3 h
theorem eqTo_ren {ns a b : List Int} {k : Nat} {i : Int} (h : i ∈ eqTo a b k) : i ∈ eqTo (renL ns a) (renL ns b) k := by
  obtain ⟨j, h1, h2, h3⟩ := eqTo_mem.1 h
  refine eqTo_mem.2 ⟨j, h1, h2, ?_⟩
  show (a.map _)[j]? = (b.map _)[j]?
  rw [List.getElem?_map, List.getElem?_map, h3]
theorem swapL_ren {ns L : List Int} {x : Q4} (h : x.b.toNat + 1 < L.length) : swapL (renL ns L) x = renL ns (swapL L x) := by
  unfold swapL
  rw [renL_getD h, renL_getD (show x.b.toNat < L.length by omega)]
  unfold renL
  rw [List.map_set, List.map_set]
theorem swapL_mem {L : List Int} {x : Q4} (h : x.b.toNat + 1 < L.length) : ∀ y ∈ swapL L x, y ∈ L := fun y hy => by
  unfold swapL at hy
  obtain ⟨a, ha⟩ := get_of_lt h
  obtain ⟨b, hb⟩ := get_of_lt (l := L) (k := x.b.toNat) (by omega)
  rw [List.getD_eq_getElem?_getD, List.getD_eq_getElem?_getD, ha, hb] at hy
  rcases List.mem_or_eq_of_mem_set hy with hy | rfl
  · rcases List.mem_or_eq_of_mem_set hy with hy | rfl
    · exact hy
    · exact mem_of_get ha
  · exact mem_of_get hb
theorem line_ren {t : Int} {xs ps : List Q4} {ds ns : List Int} (h : chkE t xs ps ds = 0) : ∀ k, lineTo xs (renL ns ds) k = renL ns (lineTo xs ds k) ∧ ∀ y ∈ lineTo xs ds k, 0 ≤ y ∧ y < 16
  | 0 => ⟨rfl, colOk_mem (chkE_ok h).2.2⟩
  | k + 1 => by
    obtain ⟨i1, i2⟩ := line_ren (ns := ns) h k
    obtain ⟨g1, g2, g3⟩ := chkE_ok h
    show (match xs[k]? with | some x => swapL (lineTo xs (renL ns ds) k) x | none => lineTo xs (renL ns ds) k) = renL ns (match xs[k]? with | some x => swapL (lineTo xs ds k) x | none => lineTo xs ds k) ∧ ∀ y ∈ (match xs[k]? with | some x => swapL (lineTo xs ds k) x | none => lineTo xs ds k), 0 ≤ y ∧ y < 16
    cases hx : xs[k]? with
    | none => exact ⟨i1, i2⟩
    | some x =>
      obtain ⟨_, q1, q2⟩ := cross_ok g1 x (mem_of_get hx)
      have hl : x.b.toNat + 1 < (lineTo xs ds k).length := by rw [lineTo_len]; omega
      refine ⟨?_, fun y hy => i2 y (swapL_mem hl y hy)⟩
      show swapL (lineTo xs (renL ns ds) k) x = renL ns (swapL (lineTo xs ds k) x)
      rw [i1, swapL_ren hl]
theorem lineR_ok {t : Int} {xs ps : List Q4} {ds : List Int} (h : chkE t xs ps ds = 0) : lineE t xs ps ds (xs.length : Int) = 0 ∧ lineR t xs ps ds (xs.length : Int) = lineTo xs ds xs.length := by
  have e : lineE t xs ps ds (xs.length : Int) = 0 := by unfold lineE; rw [if_pos h, if_neg (by omega)]
  exact ⟨e, by unfold lineR; rw [if_pos e]; simp⟩
end Go.Proofs.Ytnijfkidgndbdaa
