/-
  What holds of memory in undo.Net's first loop, and how a push and a pop change it: lemmas without a walk.
-/
import Derived.Test.YtnjenggijmbhcaaVK2
import Derived.Test.YtnjenggijmbhcaaVK6
import Derived.Laws.MakeOwn
namespace Go.Proofs.Ytnjenggijmbhcaa
open Go.RowKit
/-- a slice that has lost its last element -/
def popV : Value → Value
  | .slice A n c => .slice A (n - 1) c
  | v => v
theorem own_pop {w : World} {base : Nat} {e : TypeId} {n : Nat} {v : Value} {xs : List Value} (h : w.ownsRow base e 1 v n xs) : w.ownsRow base e 1 (popV v) (n - 1) xs.dropLast := by
  have hl := h.1
  refine ⟨by rw [List.length_dropLast, hl]; omega, ?_⟩
  rcases h.2 with ⟨rfl, h0⟩ | ⟨g, cap, cur, rfl, h1, h2, h3, h4, h5, h6⟩
  · left; subst h0; exact ⟨rfl, rfl⟩
  · right
    refine ⟨g, cap, cur, rfl, h1, h2, by omega, h4, h5, ?_⟩
    rw [← h6, List.dropLast_eq_take, List.take_take, List.length_take]
    congr 1
    have : n * 1 ≤ cur.toList.length := by rw [Array.length_toList, h5]; omega
    omega
theorem popV_block (v : Value) : (popV v).ownBlock = v.ownBlock := by
  cases v with
  | slice a n c => cases a <;> rfl
  | _ => rfl
/-- what holds of memory at each round of undo.Net's first loop -/
structure NetInv (ws : List Wk) (T n : Nat) (w1 : World) (i : Nat) (K : List Nat) (V : Nat → Value) (wr : World) : Prop where
  asc : K.Pairwise (· < ·)
  lt : ∀ k ∈ K, k < i
  net : wks ws K = netTo ws i
  has : Has wr T 74 ((List.range 24).map V)
  rows : ∀ q, q < 24 → wr.ownsRow (T + 2) 3 1 (V q) (stk ws K q).length ((stk ws K q).map vNat)
  apart : ∀ q q', q < 24 → q' < 24 → q ≠ q' → ∀ g, (V q).ownBlock = some g → (V q').ownBlock ≠ some g
  kept : wr.ownsRow (T + 1) 4 1 (.slice (some ⟨T + 1, 0, none⟩) n n) n ((List.range n).map fun j => .bool (inK K j))
  old : Below T w1 wr
theorem netInv_start (ws : List Wk) (n : Nat) (w1 : World) (hn : n ≤ 1000) :
    NetInv ws w1.heap.size n w1 0 [] (fun _ => .slice none 0 0) ((w1.alloc (.cells #[.slice none 0 0, .slice none 0 0, .slice none 0 0, .slice none 0 0, .slice none 0 0, .slice none 0 0, .slice none 0 0, .slice none 0 0, .slice none 0 0, .slice none 0 0, .slice none 0 0, .slice none 0 0, .slice none 0 0, .slice none 0 0, .slice none 0 0, .slice none 0 0, .slice none 0 0, .slice none 0 0, .slice none 0 0, .slice none 0 0, .slice none 0 0, .slice none 0 0, .slice none 0 0, .slice none 0 0] 74)).alloc (.cells (madeCells #[.bool false] n) 4)) where
  asc := List.Pairwise.nil
  lt := fun k hk => by simp at hk
  net := rfl
  has := (Has.new (by rfl)).alloc _
  rows := fun q _ => World.ownsRow_nil _ _ _ _
  apart := fun q q' _ _ _ g h => by simp [Value.ownBlock] at h
  kept := by
    have h := World.ownsRow_lit (base := w1.heap.size + 1) (size := 1) (e := 4) (w1.alloc (.cells #[.slice none 0 0, .slice none 0 0, .slice none 0 0, .slice none 0 0, .slice none 0 0, .slice none 0 0, .slice none 0 0, .slice none 0 0, .slice none 0 0, .slice none 0 0, .slice none 0 0, .slice none 0 0, .slice none 0 0, .slice none 0 0, .slice none 0 0, .slice none 0 0, .slice none 0 0, .slice none 0 0, .slice none 0 0, .slice none 0 0, .slice none 0 0, .slice none 0 0, .slice none 0 0, .slice none 0 0] 74)) (madeCells #[.bool false] n) n (by simp) (by unfold maxLen; omega) (by simp [size_madeCells])
    simp only [World.size_alloc] at h
    have e : ((List.range n).map fun j => Value.bool (inK [] j)) = (madeCells #[.bool false] n).toList := by
      rw [toList_madeCells_one]
      apply List.ext_getElem?
      intro j
      rcases Nat.lt_or_ge j n with h | h
      · simp [h, inK]
      · rw [List.getElem?_eq_none (by simpa using h), List.getElem?_eq_none (by simpa using h)]
    rw [e]; exact h
  old := ((Below.refl _ _).alloc (Nat.le_refl _) _).alloc (by simp) _

theorem range_map_set {α : Type} (f : Nat → α) (n t : Nat) (u : α) : (((List.range n).map f).set t u) = (List.range n).map fun j => if j = t then u else f j := by
  apply List.ext_getElem?
  intro j
  rw [List.getElem?_set]
  rcases Nat.lt_or_ge j n with h | h
  · by_cases e : t = j
    · subst e; simp [h]
    · have e' : ¬ j = t := fun h => e h.symm
      rw [if_neg e]; simp [h, e']
  · have e : ∀ f : Nat → α, ((List.range n).map f)[j]? = none := fun f => List.getElem?_eq_none (by simpa using h)
    rw [e, e]
    split
    · rename_i he; subst he; simp; omega
    · rfl
/-- the stacks while two of them are being popped -/
def popTo (V : Nat → Value) (a j : Nat) (q : Nat) : Value := if (q = a ∧ 1 ≤ j) ∨ (q = a + 1 ∧ 2 ≤ j) then popV (V q) else V q
theorem popTo_zero (V : Nat → Value) (a : Nat) : popTo V a 0 = V := by
  funext q; unfold popTo; rw [if_neg (by omega)]
theorem popTo_two (V : Nat → Value) (a : Nat) : popTo V a 2 = fun q => if q = a ∨ q = a + 1 then popV (V q) else V q := by
  funext q; unfold popTo
  by_cases h : q = a ∨ q = a + 1
  · rw [if_pos h, if_pos (by omega)]
  · rw [if_neg h, if_neg (by omega)]
theorem popTo_set0 (V : Nat → Value) (a : Nat) : ((List.range 24).map (popTo V a 0)).set a (popV (V a)) = (List.range 24).map (popTo V a 1) := by
  rw [range_map_set]
  apply List.map_congr_left
  intro q _
  unfold popTo
  by_cases h : q = a
  · rw [if_pos h, if_pos (by omega), h]
  · rw [if_neg h, if_neg (by omega), if_neg (by omega)]
theorem popTo_set1 (V : Nat → Value) (a : Nat) : ((List.range 24).map (popTo V a 1)).set (a + 1) (popV (V (a + 1))) = (List.range 24).map (popTo V a 2) := by
  rw [range_map_set]
  apply List.map_congr_left
  intro q _
  unfold popTo
  by_cases h : q = a + 1
  · rw [if_pos h, if_pos (by omega), h]
  · rw [if_neg h]
    by_cases h0 : q = a
    · rw [if_pos (by omega), if_pos (by omega)]
    · rw [if_neg (by omega), if_neg (by omega)]
theorem has_at {w : World} {g : Nat} {t : TypeId} {f : Nat → Value} (h : Has w g t ((List.range 24).map f)) {q : Nat} (hq : q < 24) : w.cell? ⟨g, q, none⟩ = some (f q) := by
  rw [h.cell, List.getElem?_map, List.getElem?_range hq]; rfl
theorem netInv_pop {ws : List Wk} {T n : Nat} {w1 wo wr : World} {i : Nat} {K : List Nat} {V : Nat → Value} (I : NetInv ws T n w1 i K V wo) {x : Wk} (hx : ws[i]? = some x) {K1 K2 : List Nat} {t a : Nat} (h4 : K = K1 ++ t :: K2)
    (h6 : wat ws t = a) (h7 : ∀ u ∈ K2, takes (wat ws u) a = false ∧ takes (wat ws u) (a + 1) = false) (h8 : netStep (wks ws K) x = wks ws (K1 ++ K2))
    (hHas : Has wr T 74 ((List.range 24).map fun q => if q = a ∨ q = a + 1 then popV (V q) else V q))
    (hrows : ∀ q, q < 24 → wr.ownsRow (T + 2) 3 1 (V q) (stk ws K q).length ((stk ws K q).map vNat))
    (hkept : wr.ownsRow (T + 1) 4 1 (.slice (some ⟨T + 1, 0, none⟩) n n) n (((List.range n).map fun j => Value.bool (inK K j)).set t (.bool false)))
    (hold : Below T w1 wr) : NetInv ws T n w1 (i + 1) (K1 ++ K2) (fun q => if q = a ∨ q = a + 1 then popV (V q) else V q) wr where
  asc := by
    have := I.asc
    rw [h4] at this
    exact this.sublist (List.Sublist.append (List.Sublist.refl _) (List.sublist_cons_self _ _))
  lt := fun k hk => by
    have := I.lt k (by rw [h4]; rcases List.mem_append.1 hk with h | h <;> simp [h])
    omega
  net := by rw [netTo_succ hx, ← I.net, h8]
  has := hHas
  rows := fun q hq => by
    rw [stk_pop h6 h7 q, ← h4]
    by_cases h : q = a ∨ q = a + 1
    · rw [if_pos h, if_pos h, List.length_dropLast, List.map_dropLast]
      exact own_pop (hrows q hq)
    · rw [if_neg h, if_neg h]; exact hrows q hq
  apart := fun q q' hq hq' hne g => by
    have e : ∀ q, (if q = a ∨ q = a + 1 then popV (V q) else V q).ownBlock = (V q).ownBlock := fun q => by
      split
      · exact popV_block _
      · rfl
    rw [e, e]; exact I.apart q q' hq hq' hne g
  kept := by
    rw [range_map_set] at hkept
    have hnd := I.asc
    have e : ((List.range n).map fun j => Value.bool (inK (K1 ++ K2) j)) = (List.range n).map fun j => if j = t then Value.bool false else Value.bool (inK K j) := by
      apply List.map_congr_left
      intro j _
      unfold inK
      by_cases h : j = t
      · rw [if_pos h]
        subst h
        have : j ∉ K1 ++ K2 := fun hm => by
          rw [h4] at hnd
          rw [List.pairwise_append] at hnd
          rcases List.mem_append.1 hm with hm | hm
          · have := hnd.2.2 j hm j (by simp); omega
          · have := (List.pairwise_cons.1 hnd.2.1).1 j hm; omega
        simp [this]
      · rw [if_neg h, h4]
        simp [h]
    rw [e]; exact hkept
  old := hold
theorem netInv_push {ws : List Wk} {T n : Nat} {w1 wo wr : World} {i : Nat} {K : List Nat} {V : Nat → Value} (I : NetInv ws T n w1 i K V wo) {x : Wk} (hx : ws[i]? = some x) {a : Nat} (ha : x.at_ = a)
    (h8 : netStep (wks ws K) x = wks ws (K ++ [i])) (v0 v1 : Value)
    (hHas : Has wr T 74 ((List.range 24).map fun q => if q = a then v0 else if q = a + 1 then v1 else V q))
    (hrows : ∀ q, q < 24 → q ≠ a → q ≠ a + 1 → wr.ownsRow (T + 2) 3 1 (V q) (stk ws K q).length ((stk ws K q).map vNat))
    (hr0 : wr.ownsRow (T + 2) 3 1 v0 ((stk ws K a).length + 1) ((stk ws K a).map vNat ++ [vNat i]))
    (hr1 : wr.ownsRow (T + 2) 3 1 v1 ((stk ws K (a + 1)).length + 1) ((stk ws K (a + 1)).map vNat ++ [vNat i]))
    (h24 : a + 1 < 24) (hb0 : v0.ownBlock = (V a).ownBlock ∨ ∃ g, v0.ownBlock = some g ∧ wo.heap.size ≤ g) (hb1 : v1.ownBlock = (V (a + 1)).ownBlock ∨ ∃ g, v1.ownBlock = some g ∧ wo.heap.size ≤ g)
    (hb01 : ∀ g, v0.ownBlock = some g → v1.ownBlock ≠ some g)
    (hkept : wr.ownsRow (T + 1) 4 1 (.slice (some ⟨T + 1, 0, none⟩) n n) n (((List.range n).map fun j => Value.bool (inK K j)).set i (.bool true)))
    (hold : Below T w1 wr) : NetInv ws T n w1 (i + 1) (K ++ [i]) (fun q => if q = a then v0 else if q = a + 1 then v1 else V q) wr := by
  have hwi : wat ws i = a := by rw [wat_get hx, ha]
  have far : ∀ q, q < 24 → ∀ g, (V q).ownBlock = some g → g < wo.heap.size := fun q hq g hg => ((I.rows q hq).lt g hg).2
  have one : ∀ q, q < 24 → q ≠ a → q ≠ a + 1 → ∀ g, v0.ownBlock = some g → (V q).ownBlock ≠ some g := fun q hq h1 h2 g hg hv => by
    rcases hb0 with h | ⟨g', h, hge⟩
    · rw [h] at hg; exact I.apart a q (by omega) hq (fun e => h1 e.symm) g hg hv
    · rw [h] at hg; injection hg with hg; have := far q hq g hv; omega
  have two : ∀ q, q < 24 → q ≠ a → q ≠ a + 1 → ∀ g, v1.ownBlock = some g → (V q).ownBlock ≠ some g := fun q hq h1 h2 g hg hv => by
    rcases hb1 with h | ⟨g', h, hge⟩
    · rw [h] at hg; exact I.apart (a + 1) q (by omega) hq (fun e => h2 e.symm) g hg hv
    · rw [h] at hg; injection hg with hg; have := far q hq g hv; omega
  exact {
    asc := by
      rw [List.pairwise_append]
      exact ⟨I.asc, by simp, fun k hk j hj => by simp at hj; subst hj; exact I.lt k hk⟩
    lt := fun k hk => by
      rcases List.mem_append.1 hk with h | h
      · have := I.lt k h; omega
      · simp at h; omega
    net := by rw [netTo_succ hx, ← I.net, h8]
    has := hHas
    rows := fun q hq => by
      rw [stk_push hwi q]
      by_cases h0 : q = a
      · have e1 : (if q = a ∨ q = a + 1 then stk ws K q ++ [i] else stk ws K q) = stk ws K q ++ [i] := if_pos (.inl h0)
        rw [e1, if_pos h0, List.length_append, List.map_append, h0]
        exact hr0
      · by_cases h1 : q = a + 1
        · have e1 : (if q = a ∨ q = a + 1 then stk ws K q ++ [i] else stk ws K q) = stk ws K q ++ [i] := if_pos (.inr h1)
          rw [e1, if_neg h0, if_pos h1, List.length_append, List.map_append, h1]
          exact hr1
        · have e1 : (if q = a ∨ q = a + 1 then stk ws K q ++ [i] else stk ws K q) = stk ws K q := if_neg (by omega)
          rw [e1, if_neg h0, if_neg h1]; exact hrows q hq h0 h1
    apart := fun q q' hq hq' hne g => by
      by_cases h0 : q = a
      · rw [if_pos h0]
        by_cases h0' : q' = a
        · omega
        · rw [if_neg h0']
          by_cases h1' : q' = a + 1
          · rw [if_pos h1']; exact hb01 g
          · rw [if_neg h1']; exact one q' hq' h0' h1' g
      · rw [if_neg h0]
        by_cases h1 : q = a + 1
        · rw [if_pos h1]
          by_cases h0' : q' = a
          · rw [if_pos h0']; exact fun hg hv => hb01 g hv hg
          · rw [if_neg h0', if_neg (by omega)]; exact two q' hq' h0' (by omega) g
        · rw [if_neg h1]
          by_cases h0' : q' = a
          · rw [if_pos h0']; exact fun hg hv => one q hq h0 h1 g hv hg
          · rw [if_neg h0']
            by_cases h1' : q' = a + 1
            · rw [if_pos h1']; exact fun hg hv => two q hq h0 h1 g hv hg
            · rw [if_neg h1']; exact I.apart q q' hq hq' hne g
    kept := by
      rw [range_map_set] at hkept
      have e : ((List.range n).map fun j => Value.bool (inK (K ++ [i]) j)) = (List.range n).map fun j => if j = i then Value.bool true else Value.bool (inK K j) := by
        apply List.map_congr_left
        intro j _
        unfold inK
        by_cases h : j = i
        · rw [if_pos h]; simp [h]
        · rw [if_neg h]; simp [h]
      rw [e]; exact hkept
    old := hold }
/-- memory while a work is being pushed on two stacks; d0, d1: what the two appends have given, if they have run; h: the block of the work's own variable -/
structure PushSt (ws : List Wk) (T n : Nat) (w1 : World) (i : Nat) (K : List Nat) (V : Nat → Value) (a h : Nat) (d0 d1 : Option Value) (W : World) : Prop where
  has : Has W T 74 ((List.range 24).map V)
  rows : ∀ q, q < 24 → (q = a → d0 = none) → (q = a + 1 → d1 = none) → W.ownsRow (T + 2) 3 1 (V q) (stk ws K q).length ((stk ws K q).map vNat)
  row0 : ∀ v, d0 = some v → W.ownsRow (T + 2) 3 1 v ((stk ws K a).length + 1) ((stk ws K a).map vNat ++ [vNat i]) ∧ (v.ownBlock = (V a).ownBlock ∨ ∃ g, v.ownBlock = some g ∧ h < g)
  row1 : ∀ v, d1 = some v → W.ownsRow (T + 2) 3 1 v ((stk ws K (a + 1)).length + 1) ((stk ws K (a + 1)).map vNat ++ [vNat i]) ∧ (v.ownBlock = (V (a + 1)).ownBlock ∨ ∃ g, v.ownBlock = some g ∧ h < g)
  two : ∀ v0 v1, d0 = some v0 → d1 = some v1 → ∀ g, v0.ownBlock = some g → v1.ownBlock ≠ some g
  kept : W.ownsRow (T + 1) 4 1 (.slice (some ⟨T + 1, 0, none⟩) n n) n (((List.range n).map fun j => Value.bool (inK K j)).set i (.bool true))
  old : Below T w1 W
  far : ∀ q, q < 24 → ∀ g, (V q).ownBlock = some g → T + 2 ≤ g ∧ g < h
  apart : ∀ q q', q < 24 → q' < 24 → q ≠ q' → ∀ g, (V q).ownBlock = some g → (V q').ownBlock ≠ some g
  low : T + 1 < h
  big : h < W.heap.size
  box : W.cell? ⟨h, 1, none⟩ = some (.int .i64 (a : Int))
section
variable {ws : List Wk} {T n : Nat} {w1 : World} {i : Nat} {K : List Nat} {V : Nat → Value} {a h : Nat} {d0 d1 : Option Value} {W W' : World}
theorem PushSt.alloc (P : PushSt ws T n w1 i K V a h d0 d1 W) (o : Obj) : PushSt ws T n w1 i K V a h d0 d1 (W.alloc o) where
  has := P.has.alloc o
  rows := fun q hq h0 h1 => (P.rows q hq h0 h1).alloc o
  row0 := fun v hv => ⟨(P.row0 v hv).1.alloc o, (P.row0 v hv).2⟩
  row1 := fun v hv => ⟨(P.row1 v hv).1.alloc o, (P.row1 v hv).2⟩
  two := P.two
  kept := P.kept.alloc o
  old := P.old.alloc (by have := P.low; have := P.big; omega) o
  far := P.far
  apart := P.apart
  low := P.low
  big := by have := P.big; simp; omega
  box := (World.cell?_alloc_lt W o ⟨h, 1, none⟩ P.big).trans P.box
theorem PushSt.drew (P : PushSt ws T n w1 i K V a h d0 d1 W) : PushSt ws T n w1 i K V a h d0 d1 W.drew where
  has := P.has
  rows := P.rows
  row0 := P.row0
  row1 := P.row1
  two := P.two
  kept := P.kept
  old := P.old.drew
  far := P.far
  apart := P.apart
  low := P.low
  big := P.big
  box := P.box
theorem PushSt.frz (P : PushSt ws T n w1 i K V a h d0 d1 W) (q : Nat) : W.frozen? ⟨T, q, none⟩ = false := P.has.free q
theorem PushSt.at_ (P : PushSt ws T n w1 i K V a h d0 d1 W) {q : Nat} (hq : q < 24) : W.cell? ⟨T, q, none⟩ = some (V q) := has_at P.has hq
theorem PushSt.app0 (P : PushSt ws T n w1 i K V a h none d1 W) (ha : a + 1 < 24) {v : Value} (hg : W.grownBy W' (V a).ownBlock)
    (ho : W'.ownsRow (T + 2) 3 1 v ((stk ws K a).length + 1) ((stk ws K a).map vNat ++ [vNat i])) (hor : v.ownBlock = (V a).ownBlock ∨ v.ownBlock = some W.heap.size) : PushSt ws T n w1 i K V a h (some v) d1 W' := by
  have nrow : ∀ b, b < T + 2 ∨ h ≤ b → some b ≠ (V a).ownBlock := fun b hb e => by
    have := P.far a (by omega) b e.symm; omega
  have low := P.low
  have big := P.big
  exact {
    has := P.has.same (hg.block T P.has.lt (nrow T (by omega)))
    rows := fun q hq h0 h1 => by
      have hqa : q ≠ a := fun e => by have := h0 e; cases this
      refine (P.rows q hq (fun e => absurd e hqa) h1).kept hg ?_
      cases hv : (V q).ownBlock with
      | none => exact .inl rfl
      | some g => exact .inr (fun e => P.apart q a hq (by omega) hqa g hv e.symm)
    row0 := fun v' hv => by
      injection hv with hv; subst hv
      refine ⟨ho, ?_⟩
      rcases hor with h1 | h1
      · exact .inl h1
      · exact .inr ⟨_, h1, big⟩
    row1 := fun v' hv => by
      obtain ⟨r1, r2⟩ := P.row1 v' hv
      refine ⟨r1.kept hg ?_, r2⟩
      cases hv' : v'.ownBlock with
      | none => exact .inl rfl
      | some g =>
        refine .inr (fun e => ?_)
        rcases r2 with r2 | ⟨g', r2, hlt⟩
        · rw [r2] at hv'; exact P.apart (a + 1) a (by omega) (by omega) (by omega) g hv' e.symm
        · rw [r2] at hv'; injection hv' with hv'
          have := P.far a (by omega) g e.symm; omega
    two := fun v0 v1 h0 h1 g hg0 hg1 => by
      injection h0 with h0; subst h0
      obtain ⟨r1, r2⟩ := P.row1 v1 h1
      rcases hor with e | e
      · rw [e] at hg0
        rcases r2 with r2 | ⟨g', r2, hlt⟩
        · rw [r2] at hg1; exact P.apart a (a + 1) (by omega) (by omega) (by omega) g hg0 hg1
        · rw [r2] at hg1; injection hg1 with hg1
          have := P.far a (by omega) g hg0; omega
      · rw [e] at hg0; injection hg0 with hg0
        have := (r1.lt g hg1).2; omega
    kept := P.kept.kept hg (.inr (by simpa [Value.ownBlock] using nrow (T + 1) (by omega)))
    old := P.old.grown hg (by omega) (fun k hk => by have := P.far a (by omega) k hk; omega)
    far := P.far
    apart := P.apart
    low := low
    big := Nat.lt_of_lt_of_le big hg.size
    box := (World.cell?_of_block (hg.block h big (nrow h (by omega)))).trans P.box }
theorem PushSt.app1 (P : PushSt ws T n w1 i K V a h d0 none W) (ha : a + 1 < 24) {v : Value} (hg : W.grownBy W' (V (a + 1)).ownBlock)
    (ho : W'.ownsRow (T + 2) 3 1 v ((stk ws K (a + 1)).length + 1) ((stk ws K (a + 1)).map vNat ++ [vNat i])) (hor : v.ownBlock = (V (a + 1)).ownBlock ∨ v.ownBlock = some W.heap.size) : PushSt ws T n w1 i K V a h d0 (some v) W' := by
  have nrow : ∀ b, b < T + 2 ∨ h ≤ b → some b ≠ (V (a + 1)).ownBlock := fun b hb e => by
    have := P.far (a + 1) (by omega) b e.symm; omega
  have low := P.low
  have big := P.big
  exact {
    has := P.has.same (hg.block T P.has.lt (nrow T (by omega)))
    rows := fun q hq h0 h1 => by
      have hqa : q ≠ a + 1 := fun e => by have := h1 e; cases this
      refine (P.rows q hq h0 (fun e => absurd e hqa)).kept hg ?_
      cases hv : (V q).ownBlock with
      | none => exact .inl rfl
      | some g => exact .inr (fun e => P.apart q (a + 1) hq (by omega) hqa g hv e.symm)
    row1 := fun v' hv => by
      injection hv with hv; subst hv
      refine ⟨ho, ?_⟩
      rcases hor with h1 | h1
      · exact .inl h1
      · exact .inr ⟨_, h1, big⟩
    row0 := fun v' hv => by
      obtain ⟨r1, r2⟩ := P.row0 v' hv
      refine ⟨r1.kept hg ?_, r2⟩
      cases hv' : v'.ownBlock with
      | none => exact .inl rfl
      | some g =>
        refine .inr (fun e => ?_)
        rcases r2 with r2 | ⟨g', r2, hlt⟩
        · rw [r2] at hv'; exact P.apart a (a + 1) (by omega) (by omega) (by omega) g hv' e.symm
        · rw [r2] at hv'; injection hv' with hv'
          have := P.far (a + 1) (by omega) g e.symm; omega
    two := fun v0 v1 h0 h1 g hg0 hg1 => by
      injection h1 with h1; subst h1
      obtain ⟨r1, r2⟩ := P.row0 v0 h0
      rcases hor with e | e
      · rw [e] at hg1
        rcases r2 with r2 | ⟨g', r2, hlt⟩
        · rw [r2] at hg0; exact P.apart a (a + 1) (by omega) (by omega) (by omega) g hg0 hg1
        · rw [r2] at hg0; injection hg0 with hg0
          have := P.far (a + 1) (by omega) g hg1; omega
      · rw [e] at hg1; injection hg1 with hg1
        have := (r1.lt g hg0).2; omega
    kept := P.kept.kept hg (.inr (by simpa [Value.ownBlock] using nrow (T + 1) (by omega)))
    old := P.old.grown hg (by omega) (fun k hk => by have := P.far (a + 1) (by omega) k hk; omega)
    far := P.far
    apart := P.apart
    low := low
    big := Nat.lt_of_lt_of_le big hg.size
    box := (World.cell?_of_block (hg.block h big (nrow h (by omega)))).trans P.box }
theorem PushSt.rowA (P : PushSt ws T n w1 i K V a h none d1 W) (ha : a + 1 < 24) {v : Value} (hv : V a = v) : W.ownsRow (T + 2) 3 1 v (stk ws K a).length ((stk ws K a).map vNat) := by
  have := P.rows a (by omega) (fun _ => rfl) (fun e => by omega)
  rwa [hv] at this
theorem PushSt.rowB (P : PushSt ws T n w1 i K V a h d0 none W) (ha : a + 1 < 24) {v : Value} (hv : V (a + 1) = v) : W.ownsRow (T + 2) 3 1 v (stk ws K (a + 1)).length ((stk ws K (a + 1)).map vNat) := by
  have := P.rows (a + 1) (by omega) (fun e => by omega) (fun _ => rfl)
  rwa [hv] at this
theorem PushSt.appA {vv : Value} (P : PushSt ws T n w1 i K V a h none d1 W) (ha : a + 1 < 24) (hv : V a = vv) {v : Value} (hg : W.grownBy W' vv.ownBlock)
    (ho : W'.ownsRow (T + 2) 3 1 v ((stk ws K a).length + 1) ((stk ws K a).map vNat ++ [vNat i])) (hor : v.ownBlock = vv.ownBlock ∨ v.ownBlock = some W.heap.size) : PushSt ws T n w1 i K V a h (some v) d1 W' := by
  subst hv; exact P.app0 ha hg ho hor
theorem PushSt.appB {vv : Value} (P : PushSt ws T n w1 i K V a h d0 none W) (ha : a + 1 < 24) (hv : V (a + 1) = vv) {v : Value} (hg : W.grownBy W' vv.ownBlock)
    (ho : W'.ownsRow (T + 2) 3 1 v ((stk ws K (a + 1)).length + 1) ((stk ws K (a + 1)).map vNat ++ [vNat i])) (hor : v.ownBlock = vv.ownBlock ∨ v.ownBlock = some W.heap.size) : PushSt ws T n w1 i K V a h d0 (some v) W' := by
  subst hv; exact P.app1 ha hg ho hor
theorem PushSt.done {wo : World} {v0 v1 : Value} (P : PushSt ws T n w1 i K V a h (some v0) (some v1) W) (I : NetInv ws T n w1 i K V wo) (hh : h = wo.heap.size) {x : Wk} (hx : ws[i]? = some x) (hxa : x.at_ = a) (ha : a + 1 < 24)
    (h8 : netStep (wks ws K) x = wks ws (K ++ [i])) :
    NetInv ws T n w1 (i + 1) (K ++ [i]) (fun q => if q = a then v0 else if q = a + 1 then v1 else V q) ((W.setCell ⟨T, a, none⟩ v0).setCell ⟨T, a + 1, none⟩ v1) := by
  subst hh
  have keep : ∀ {base : Nat} {e : TypeId} {size m : Nat} {v : Value} {xs : List Value}, T < base → W.ownsRow base e size v m xs → ((W.setCell ⟨T, a, none⟩ v0).setCell ⟨T, a + 1, none⟩ v1).ownsRow base e size v m xs := fun hb ho =>
    ownsRow_setCell_below (ownsRow_setCell_below ho (by simpa using hb) _) (by simpa using hb) _
  refine netInv_push I hx hxa h8 v0 v1 ?_ (fun q hq h0 h1 => keep (by omega) (P.rows q hq (fun e => absurd e h0) (fun e => absurd e h1))) (keep (by omega) (P.row0 v0 rfl).1) (keep (by omega) (P.row1 v1 rfl).1) ha ?_ ?_ (P.two v0 v1 rfl rfl) (keep (by omega) P.kept) ((P.old.setCell (Nat.le_refl _) _).setCell (Nat.le_refl _) _)
  · have := (P.has.set a v0).set (a + 1) v1
    rw [range_map_set, range_map_set] at this
    have e : ((List.range 24).map fun q => if q = a then v0 else if q = a + 1 then v1 else V q) = (List.range 24).map fun j => if j = a + 1 then v1 else if j = a then v0 else V j := by
      apply List.map_congr_left
      intro q _
      by_cases h0 : q = a
      · rw [if_pos h0, if_neg (by omega), if_pos h0]
      · rw [if_neg h0, if_neg h0]
    rw [e]; exact this
  · rcases (P.row0 v0 rfl).2 with h | ⟨g, h, hl⟩
    · exact .inl h
    · exact .inr ⟨g, h, by omega⟩
  · rcases (P.row1 v1 rfl).2 with h | ⟨g, h, hl⟩
    · exact .inl h
    · exact .inr ⟨g, h, by omega⟩
end
theorem news1 {w : World} {b : Nat} {u : Value} (h : w.cell? ⟨b, 0, none⟩ = some u) : ∀ j v, [u][j]? = some v → w.cell? ((⟨b, 0, none⟩ : Addr).add j) = some v := fun j v hv => by
  match j, hv with
  | 0, hv => simp at hv; subst hv; rw [Addr.add_lit]; exact h
  | j + 1, hv => simp at hv
/-- a new cell is there behind an append to another row -/
theorem tmp_keep {w w' : World} {v : Value} {b : Nat} {u : Value} (hg : w.grownBy w' v.ownBlock) (hb : b < w.heap.size) (hne : ∀ g, v.ownBlock = some g → g < b) (h : w.cell? ⟨b, 0, none⟩ = some u) : w'.cell? ⟨b, 0, none⟩ = some u :=
  (World.cell?_of_block (hg.block b hb (fun e => by have := hne b e.symm; omega))).trans h
end Go.Proofs.Ytnjenggijmbhcaa
