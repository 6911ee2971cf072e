/-
  Plain law of matching two orders of the same lace: what always takes the first work that is ready finds each; and words and sheets that stay valid. No program in sight.
-/
import Derived.Test.YtnjenggijmbhcaaNetF
namespace Go.Proofs.Ytnjenggijmbhcaa
theorem first_split {α : Type} (p : α → Bool) (l : List α) (h : ∃ z ∈ l, p z = true) : ∃ l1 z l2, l = l1 ++ z :: l2 ∧ p z = true ∧ ∀ y ∈ l1, p y = false := by
  induction l with
  | nil => obtain ⟨z, hz, _⟩ := h; cases hz
  | cons x l ih =>
    cases hx : p x with
    | true => exact ⟨[], x, l, rfl, hx, fun y hy => by cases hy⟩
    | false =>
      obtain ⟨l1, z, l2, h1, h2, h3⟩ := ih (by
        obtain ⟨z, hz, hp⟩ := h
        rcases List.mem_cons.1 hz with e | hz
        · rw [e, hx] at hp; cases hp
        · exact ⟨z, hz, hp⟩)
      refine ⟨x :: l1, z, l2, by rw [h1]; rfl, h2, fun y hy => ?_⟩
      rcases List.mem_cons.1 hy with e | hy
      · rw [e]; exact hx
      · exact h3 y hy
theorem alike_cancel {l1 l2 b : List Wk} {x : Wk} (h : Alike (l1 ++ x :: l2) (x :: b)) (hf : Free l1 x.at_) : Alike (l1 ++ l2) b := fun i => by
  have := h i
  rw [proj_app, proj_cons, proj_cons] at this
  rw [proj_app]
  cases hi : atp i x with
  | true =>
    rw [hi, proj_free hf hi] at this
    rw [proj_free hf hi]
    simpa using this
  | false => rw [hi] at this; simpa using this
/-- what comes first in one order is ready in the other -/
theorem alike_first {l1 l2 b : List Wk} {x z : Wk} (h : Alike (l1 ++ z :: l2) (x :: b)) (hf : Free l1 x.at_) (hz : touch z.at_ x.at_ = true) : z = x := by
  rcases touch_atp hz with hi | hi
  · have := h (x.at_ - 1)
    rw [proj_app, proj_cons, proj_cons, if_pos hi, if_pos (atp_self' x), proj_free hf (atp_self' x)] at this
    simp at this; exact this.1
  · have := h x.at_
    rw [proj_app, proj_cons, proj_cons, if_pos hi, if_pos (atp_self x), proj_free hf (atp_self x)] at this
    simp at this; exact this.1
theorem alike_mem {u b : List Wk} {x : Wk} (h : Alike u (x :: b)) : x ∈ u := by
  have := h x.at_
  rw [proj_cons, if_pos (atp_self x)] at this
  have : x ∈ proj x.at_ u := by rw [this]; simp
  exact (List.mem_filter.1 this).1
theorem alike_split {u b : List Wk} {x : Wk} (h : Alike u (x :: b)) : ∃ l1 l2, u = l1 ++ x :: l2 ∧ Free l1 x.at_ ∧ Alike (l1 ++ l2) b := by
  obtain ⟨l1, z, l2, h1, h2, h3⟩ := first_split (fun z => touch z.at_ x.at_) u ⟨x, alike_mem h, touch_self _⟩
  rw [h1] at h
  obtain rfl := alike_first h h3 h2
  exact ⟨l1, l2, h1, h3, alike_cancel h h3⟩
theorem alike_len {u v : List Wk} (h : Alike u v) : u.length = v.length := by
  induction v generalizing u with
  | nil => rw [alike_nil h]
  | cons x b ih =>
    obtain ⟨l1, l2, h1, _, h3⟩ := alike_split h
    have := ih h3
    rw [h1]; simp at this ⊢; omega
/-! ### the search as the program does it -/
def upd (D : Nat → Bool) (i : Nat) : Nat → Bool := fun k => k == i || D k
/-- what is not done of the first n works -/
def rem (a : List Wk) (D : Nat → Bool) : Nat → List Wk
  | 0 => []
  | n + 1 => rem a D n ++ (if D n then [] else (a[n]?).toList)
def rdyTo (a : List Wk) (D : Nat → Bool) (i : Nat) : Nat → Bool
  | 0 => true
  | k + 1 => rdyTo a D i k && (D k || !touch (wat a k) (wat a i))
def rdy (a : List Wk) (D : Nat → Bool) (i : Nat) : Bool := rdyTo a D i i && !D i
def fndTo (a : List Wk) (D : Nat → Bool) (x : Wk) : Nat → Option Nat
  | 0 => none
  | i + 1 => match fndTo a D x i with
    | some j => some j
    | none => if a[i]? = some x ∧ rdy a D i = true then some i else none
def mat (a : List Wk) (D : Nat → Bool) : List Wk → Bool
  | [] => true
  | x :: b => match fndTo a D x a.length with
    | some i => mat a (upd D i) b
    | none => false
theorem rem_upd (a : List Wk) (D : Nat → Bool) (i n : Nat) (h : n ≤ i) : rem a (upd D i) n = rem a D n := by
  induction n with
  | zero => rfl
  | succ n ih =>
    unfold rem
    have : upd D i n = D n := by unfold upd; simp; omega
    rw [ih (by omega), this]
theorem rem_split (a : List Wk) (D : Nat → Bool) {i : Nat} {x : Wk} (hx : a[i]? = some x) (hd : D i = false) : ∀ n, i < n → ∃ r, rem a D n = rem a D i ++ x :: r ∧ rem a (upd D i) n = rem a D i ++ r := fun n h => by
  induction n with
  | zero => omega
  | succ n ih =>
    rcases Nat.lt_or_ge i n with hi | hi
    · obtain ⟨r, h1, h2⟩ := ih hi
      have : upd D i n = D n := by unfold upd; simp; omega
      refine ⟨r ++ (if D n then [] else (a[n]?).toList), ?_, ?_⟩
      · show rem a D n ++ _ = _
        rw [h1]; simp
      · show rem a (upd D i) n ++ _ = _
        rw [h2, this]; simp
    · obtain rfl : i = n := by omega
      refine ⟨[], ?_, ?_⟩
      · show rem a D i ++ _ = _
        rw [hd, hx]; simp
      · show rem a (upd D i) i ++ _ = _
        rw [rem_upd _ _ _ _ (Nat.le_refl _)]
        have : upd D i i = true := by unfold upd; simp
        rw [this]; simp
theorem rem_mem {a : List Wk} {D : Nat → Bool} {n : Nat} {z : Wk} : z ∈ rem a D n ↔ ∃ k, k < n ∧ D k = false ∧ a[k]? = some z := by
  induction n with
  | zero => simp [rem]
  | succ n ih =>
    unfold rem
    rw [List.mem_append, ih]
    constructor
    · rintro (⟨k, h1, h2, h3⟩ | h)
      · exact ⟨k, by omega, h2, h3⟩
      · cases hd : D n with
        | true => rw [hd] at h; simp at h
        | false => rw [hd] at h; simp at h; exact ⟨n, by omega, hd, h⟩
    · rintro ⟨k, h1, h2, h3⟩
      rcases Nat.lt_or_ge k n with hk | hk
      · exact .inl ⟨k, hk, h2, h3⟩
      · obtain rfl : k = n := by omega
        right; rw [h2, h3]; simp
theorem rdyTo_iff (a : List Wk) (D : Nat → Bool) (i : Nat) : ∀ k, rdyTo a D i k = true ↔ ∀ j, j < k → D j = false → touch (wat a j) (wat a i) = false := fun k => by
  induction k with
  | zero => simp [rdyTo]
  | succ k ih =>
    unfold rdyTo
    rw [Bool.and_eq_true, ih, Bool.or_eq_true]
    constructor
    · rintro ⟨h1, h2⟩ j hj hd
      rcases Nat.lt_or_ge j k with hk | hk
      · exact h1 j hk hd
      · obtain rfl : j = k := by omega
        rcases h2 with h2 | h2
        · rw [hd] at h2; cases h2
        · simpa using h2
    · intro h
      refine ⟨fun j hj => h j (by omega), ?_⟩
      cases hd : D k with
      | true => exact .inl rfl
      | false => right; rw [h k (by omega) hd]; rfl
theorem rdy_iff {a : List Wk} {D : Nat → Bool} {i : Nat} {x : Wk} (hx : a[i]? = some x) (hi : i ≤ a.length) : rdy a D i = true ↔ D i = false ∧ Free (rem a D i) x.at_ := by
  unfold rdy
  rw [Bool.and_eq_true, rdyTo_iff, wat_get hx]
  constructor
  · rintro ⟨h1, h2⟩
    refine ⟨by simpa using h2, fun z hz => ?_⟩
    obtain ⟨k, h3, h4, h5⟩ := rem_mem.1 hz
    have := h1 k h3 h4
    rwa [wat_get h5] at this
  · rintro ⟨h1, h2⟩
    refine ⟨fun j hj hd => ?_, by simpa using h1⟩
    obtain ⟨z, hz⟩ := get_of_lt (l := a) (k := j) (by omega)
    rw [wat_get hz]
    exact h2 z (rem_mem.2 ⟨j, hj, hd, hz⟩)
theorem fndTo_some {a : List Wk} {D : Nat → Bool} {x : Wk} {i : Nat} : ∀ n, fndTo a D x n = some i → i < n ∧ a[i]? = some x ∧ rdy a D i = true := fun n h => by
  induction n with
  | zero => cases h
  | succ n ih =>
    unfold fndTo at h
    cases hf : fndTo a D x n with
    | some j =>
      rw [hf] at h
      injection h with h
      have := ih (by rw [hf, h])
      exact ⟨by omega, this.2⟩
    | none =>
      rw [hf] at h
      simp only at h
      split at h
      · rename_i hc
        injection h with h
        subst h
        exact ⟨by omega, hc⟩
      · cases h
theorem fndTo_none {a : List Wk} {D : Nat → Bool} {x : Wk} : ∀ n, fndTo a D x n = none → ∀ i, i < n → ¬ (a[i]? = some x ∧ rdy a D i = true) := fun n h => by
  induction n with
  | zero => intro i hi; omega
  | succ n ih =>
    intro i hi
    unfold fndTo at h
    cases hf : fndTo a D x n with
    | some j => rw [hf] at h; cases h
    | none =>
      rw [hf] at h
      simp only at h
      split at h
      · cases h
      · rename_i hc
        rcases Nat.lt_or_ge i n with hk | hk
        · exact ih hf i hk
        · obtain rfl : i = n := by omega
          exact hc
theorem least_of (P : Nat → Prop) (h : ∃ k, P k) : ∃ m, P m ∧ ∀ j, j < m → ¬ P j := by
  obtain ⟨k, hk⟩ := h
  induction k using Nat.strongRecOn with
  | _ k ih =>
    by_cases hx : ∃ j, j < k ∧ P j
    · obtain ⟨j, h1, h2⟩ := hx
      exact ih j h1 h2
    · exact ⟨k, hk, fun j hj hp => hx ⟨j, hj, hp⟩⟩
theorem mat_rem {a : List Wk} : ∀ (b : List Wk) (D : Nat → Bool), Alike (rem a D a.length) b → mat a D b = true := fun b => by
  induction b with
  | nil => intro D _; rfl
  | cons x b ih =>
    intro D h
    unfold mat
    cases hf : fndTo a D x a.length with
    | some i =>
      obtain ⟨h1, h2, h3⟩ := fndTo_some _ hf
      obtain ⟨h4, h5⟩ := (rdy_iff h2 (by omega)).1 h3
      obtain ⟨r, h6, h7⟩ := rem_split a D h2 h4 a.length h1
      rw [h6] at h
      refine ih _ ?_
      rw [h7]
      exact alike_cancel h h5
    | none =>
      exfalso
      obtain ⟨k, h1, h2, h3⟩ := rem_mem.1 (alike_mem h)
      have ex : ∃ i, i < a.length ∧ D i = false ∧ ∃ z, a[i]? = some z ∧ touch z.at_ x.at_ = true := ⟨k, h1, h2, x, h3, touch_self _⟩
      obtain ⟨m, hm, hmin⟩ := least_of _ ex
      obtain ⟨g1, g2, z, g3, g4⟩ := hm
      have hfree : Free (rem a D m) x.at_ := fun y hy => by
        obtain ⟨j, j1, j2, j3⟩ := rem_mem.1 hy
        cases ht : touch y.at_ x.at_ with
        | false => rfl
        | true => exact (hmin j j1 ⟨by omega, j2, y, j3, ht⟩).elim
      obtain ⟨r, h6, _⟩ := rem_split a D g3 g2 a.length g1
      rw [h6] at h
      obtain rfl := alike_first h hfree g4
      exact fndTo_none _ hf m g1 ⟨g3, (rdy_iff g3 (by omega)).2 ⟨g2, hfree⟩⟩
theorem rem_none (a : List Wk) : ∀ n, n ≤ a.length → rem a (fun _ => false) n = a.take n := fun n h => by
  induction n with
  | zero => rfl
  | succ n ih =>
    unfold rem
    rw [ih (by omega), List.take_add_one]; simp
theorem fndTo_first {a : List Wk} {D : Nat → Bool} {x : Wk} {j : Nat} : ∀ n, fndTo a D x n = some j → fndTo a D x j = none := fun n h => by
  induction n with
  | zero => cases h
  | succ n ih =>
    cases hf : fndTo a D x n with
    | some k =>
      have h' := h
      unfold fndTo at h'
      rw [hf] at h'
      injection h' with h'
      exact ih (by rw [hf, h'])
    | none =>
      have h' := h
      unfold fndTo at h'
      rw [hf] at h'
      simp only at h'
      split at h'
      · injection h' with h'
        rw [← h']; exact hf
      · cases h'
theorem mat_step {a b : List Wk} {D : Nat → Bool} {y : Nat} {x : Wk} (h : mat a D (b.drop y) = true) (hx : b[y]? = some x) :
    ∃ j, j < a.length ∧ a[j]? = some x ∧ rdy a D j = true ∧ (∀ i, i < j → a[i]? = some x → rdy a D i = false) ∧ mat a (upd D j) (b.drop (y + 1)) = true := by
  have e : b.drop y = x :: b.drop (y + 1) := by
    have hl := lt_of_get hx
    rw [List.drop_eq_getElem_cons hl]
    rw [List.getElem?_eq_getElem hl] at hx
    injection hx with hx
    rw [hx]
  rw [e] at h
  unfold mat at h
  cases hf : fndTo a D x a.length with
  | none => rw [hf] at h; cases h
  | some j =>
    rw [hf] at h
    obtain ⟨h1, h2, h3⟩ := fndTo_some _ hf
    refine ⟨j, h1, h2, h3, fun i hi hx' => ?_, h⟩
    have := fndTo_none _ (fndTo_first _ hf) i hi
    cases hr : rdy a D i with
    | false => rfl
    | true => exact (this ⟨hx', hr⟩).elim
/-- two orders of the same lace match -/
theorem mat_alike {a b : List Wk} (h : Alike a b) : mat a (fun _ => false) b = true :=
  mat_rem b _ (by rw [rem_none _ _ (Nat.le_refl _), List.take_length]; exact h)
/-! ### words and sheets that stay valid -/
theorem SOk.zero {p : Int} {ws : List Wk} (h : SOk p ws) : schk p ws = 0 := by
  unfold schk
  have h1 : ws.any (fun x => decide (16 < x.word.size)) = false := by
    rw [List.any_eq_false]; intro x hx; have := h.short x hx; simp; omega
  have h2 : ws.any (wkBad p) = false := by
    rw [List.any_eq_false]; intro x hx; rw [h.good x hx]; simp
  have h3 : ws.all (fun x => wOk x.word) = true := by
    rw [List.all_eq_true]; exact h.form
  have := h.le; have := h.ge; have := h.len
  rw [if_neg (by rw [h1]; simp; omega), if_neg (by rw [h2]; simp; omega), if_pos h3]
theorem SOk.sub {p : Int} {u v : List Wk} (h : SOk p u) (hl : v.length ≤ 400) (hm : ∀ x ∈ v, x ∈ u) : SOk p v :=
  ⟨h.le, h.ge, hl, fun x hx => h.short x (hm x hx), fun x hx => h.good x (hm x hx), fun x hx => h.form x (hm x hx)⟩
theorem netL_mem {ws : List Wk} {y : Wk} (h : y ∈ netL ws) : y ∈ ws := netTo_mem h
theorem netL_len (ws : List Wk) : (netL ws).length ≤ ws.length := netTo_len ws ws.length
theorem SOk.net {p : Int} {u : List Wk} (h : SOk p u) : SOk p (netL u) := h.sub (Nat.le_trans (netL_len u) h.len) (fun _ hx => netL_mem hx)
theorem img_img : ∀ c ∈ letters, img undoes (img undoes c) = c := by decide
theorem img_let : ∀ c ∈ letters, img undoes c ∈ letters := by decide
theorem wOk_mem {s : ByteArray} (h : wOk s = true) : ∀ c ∈ s.data.toList, c ∈ letters := fun c hc => by
  unfold wOk at h
  have := List.all_eq_true.1 h c hc
  unfold isLet at this
  simpa using this
theorem mem_wOk {s : ByteArray} (h : ∀ c ∈ s.data.toList, c ∈ letters) : wOk s = true := by
  unfold wOk
  rw [List.all_eq_true]
  intro c hc
  have := h c hc
  unfold isLet
  simpa using this
theorem invW_eq {s : ByteArray} (h1 : s.size ≤ 16) (h2 : wOk s = true) : invW s = ⟨(s.data.toList.map (img undoes)).reverse.toArray⟩ := by unfold invW; rw [if_pos (wchk_ok h1 h2)]
theorem invW_size {s : ByteArray} (h1 : s.size ≤ 16) (h2 : wOk s = true) : (invW s).size = s.size := by
  rw [← str_len, ← str_len, invW_eq h1 h2, List.length_reverse, List.length_map]
theorem invW_ok {s : ByteArray} (h1 : s.size ≤ 16) (h2 : wOk s = true) : (invW s).size ≤ 16 ∧ wOk (invW s) = true := by
  refine ⟨by rw [invW_size h1 h2]; exact h1, mem_wOk fun c hc => ?_⟩
  · rw [invW_eq h1 h2] at hc
    simp at hc
    obtain ⟨d, hd, rfl⟩ := hc
    exact img_let d (wOk_mem h2 d (by simpa using hd))
theorem invW_inv {s : ByteArray} (h1 : s.size ≤ 16) (h2 : wOk s = true) : invW (invW s) = s := by
  rw [invW_eq (invW_ok h1 h2).1 (invW_ok h1 h2).2, invW_eq h1 h2]
  apply ba_ext
  simp only [List.map_reverse, List.reverse_reverse, List.map_map]
  have : ∀ c ∈ s.data.toList, (img undoes ∘ img undoes) c = c := fun c hc => img_img c (wOk_mem h2 c hc)
  rw [List.map_congr_left this]; simp
theorem SOk.back {p : Int} {u : List Wk} (h : SOk p u) : ∀ x ∈ u, undoW (undoW x) = x := fun x hx => by
  unfold undoW
  rw [invW_inv (h.short x hx) (h.form x hx)]
theorem wkBad_undo {p : Int} {x : Wk} (h : wkBad p x = false) (hs : x.word.size ≤ 16) (ho : wOk x.word = true) : wkBad p (undoW x) = false := by
  obtain ⟨h1, h2, h3, h4⟩ := bad_at h
  have e : (invW x.word).size = x.word.size := invW_size hs ho
  unfold wkBad undoW
  simp only [Bool.or_eq_false_iff, Bool.and_eq_false_iff, decide_eq_false_iff_not, bne_eq_false_iff_eq, beq_eq_false_iff_ne]
  refine ⟨⟨⟨h1, by omega⟩, by omega⟩, ?_⟩
  by_cases hk : x.kind = 2
  · right; rw [e]; exact h4 hk
  · left; exact hk
theorem SOk.undo {p : Int} {u : List Wk} (h : SOk p u) : SOk p (u.map undoW) :=
  ⟨h.le, h.ge, by rw [List.length_map]; exact h.len, fun x hx => by
    obtain ⟨y, hy, rfl⟩ := List.mem_map.1 hx; exact (invW_ok (h.short y hy) (h.form y hy)).1, fun x hx => by
    obtain ⟨y, hy, rfl⟩ := List.mem_map.1 hx; exact wkBad_undo (h.good y hy) (h.short y hy) (h.form y hy), fun x hx => by
    obtain ⟨y, hy, rfl⟩ := List.mem_map.1 hx; exact (invW_ok (h.short y hy) (h.form y hy)).2⟩
theorem SOk.app {p : Int} {u v : List Wk} (h : SOk p u) (k : SOk p v) (hl : (u ++ v).length ≤ 400) : SOk p (u ++ v) :=
  ⟨h.le, h.ge, hl, fun x hx => (List.mem_append.1 hx).elim (h.short x) (k.short x), fun x hx => (List.mem_append.1 hx).elim (h.good x) (k.good x), fun x hx => (List.mem_append.1 hx).elim (h.form x) (k.form x)⟩
end Go.Proofs.Ytnjenggijmbhcaa
