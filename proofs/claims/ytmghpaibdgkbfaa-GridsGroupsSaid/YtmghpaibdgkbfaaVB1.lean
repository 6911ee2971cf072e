/-
  Words on memory that all proofs of this seat share: a slice of works, of ints, of bools read as a list. Plain definitions and lemmas; nothing here is a claim.
-/
import Derived.Test.YtmghpaibdgkbfaaRows
import Derived.WalkKit
import Derived.ProofKit
import Derived.BigGuardPart
import Derived.BigQuiet
import Derived.Deep.QuietTactic
import Derived.Deep.RegionHeld3
import Derived.Deep.LoopGhost
import Derived.Lib.Hide
import Derived.Outline
import Derived.Handy
import Derived.Laws.ResultCell
import Derived.Maps.AppendAt
import Derived.Laws.OwnMore
import Derived.Laws.Rows
namespace Go.Proofs.Ytmghpaibdgkbfaa
open Go.RowKit

theorem ret_int {k : IntKind} {a b : Int} (h : a = b) : Ending.returned (.int k a) = .returned (.int k b) := by rw [h]
theorem ret_bool {a b : Bool} (h : a = b) : Ending.returned (.bool a) = .returned (.bool b) := by rw [h]
theorem ret_str {a b : ByteArray} (h : a = b) : Ending.returned (.string a) = .returned (.string b) := by rw [h]

/-- a work: kind, place, word -/
structure Wk where
  kind : Int
  at_ : Int
  word : ByteArray
deriving DecidableEq

/-- The slice address A reads, in world w and below block B, as these works. -/
def RdW (w : World) (B : Nat) (A : Option Addr) (ws : List Wk) : Prop :=
  ∀ (k : Nat) (x : Wk), ws[k]? = some x → ∃ b o, A = some ⟨b, o, none⟩ ∧ b < B ∧
    w.cell? ⟨b, o + k*3, none⟩ = some (.int .i64 x.kind) ∧ w.cell? ⟨b, o + k*3+1, none⟩ = some (.int .i64 x.at_) ∧ w.cell? ⟨b, o+k*3+2, none⟩ = some (.string x.word)

theorem RdW.below {w w' : World} {B B' : Nat} {A : Option Addr} {ws : List Wk} (h : RdW w B A ws) (hb : Below B w w') (hB : B ≤ B') : RdW w' B' A ws := fun k x hx => by
  obtain ⟨b, o, h1, h2, h3, h4, h5⟩ := h k x hx
  exact ⟨b, o, h1, Nat.lt_of_lt_of_le h2 hB, (hb.cell h2).trans h3, (hb.cell h2).trans h4, (hb.cell h2).trans h5⟩

theorem rdW_one (w : World) (k a : Int) (s : ByteArray) (t : TypeId) : RdW (w.alloc (.cells #[.int .i64 k, .int .i64 a, .string s] t)) (w.alloc (.cells #[.int .i64 k, .int .i64 a, .string s] t)).heap.size (some ⟨w.heap.size, 0, none⟩) [⟨k, a, s⟩] := fun j x hx => by
  match j, hx with
  | 0, hx =>
    simp at hx; subst hx
    exact ⟨w.heap.size, 0, rfl, by simp, by go_simp, by go_simp, by go_simp⟩
  | j + 1, hx => simp at hx
theorem rdW_cells {w : World} {b : Nat} {k a : Int} {s : ByteArray} (hb : b < w.heap.size) (h0 : w.cell? ⟨b, 0, none⟩ = some (.int .i64 k)) (h1 : w.cell? ⟨b, 1, none⟩ = some (.int .i64 a)) (h2 : w.cell? ⟨b, 2, none⟩ = some (.string s)) :
    RdW w w.heap.size (some ⟨b, 0, none⟩) [⟨k, a, s⟩] := fun j x hx => by
  match j, hx with
  | 0, hx =>
    simp at hx; subst hx
    exact ⟨b, 0, rfl, hb, h0, h1, h2⟩
  | j + 1, hx => simp at hx
theorem RdW.nil (w : World) (B : Nat) (A : Option Addr) : RdW w B A [] := fun k x hx => by simp at hx

/-- what is below old memory's end is kept by everything that the call does -/
theorem RdW.up {w w' : World} {A : Option Addr} {ws : List Wk} (h : RdW w w.heap.size A ws) (hb : Below w.heap.size w w') : RdW w' w'.heap.size A ws := h.below hb hb.size

/-- one-cell elements -/
def Rd1 {α : Type} (f : α → Value) (w : World) (B : Nat) (A : Option Addr) (xs : List α) : Prop :=
  ∀ (k : Nat) (x : α), xs[k]? = some x → ∃ b o, A = some ⟨b, o, none⟩ ∧ b < B ∧ w.cell? ⟨b, o + k, none⟩ = some (f x)

theorem Rd1.below {α : Type} {f : α → Value} {w w' : World} {B B' : Nat} {A : Option Addr} {xs : List α} (h : Rd1 f w B A xs) (hb : Below B w w') (hB : B ≤ B') : Rd1 f w' B' A xs := fun k x hx => by
  obtain ⟨b, o, h1, h2, h3⟩ := h k x hx
  exact ⟨b, o, h1, Nat.lt_of_lt_of_le h2 hB, (hb.cell h2).trans h3⟩
theorem Rd1.nil {α : Type} (f : α → Value) (w : World) (B : Nat) (A : Option Addr) : Rd1 f w B A [] := fun k x hx => by simp at hx
theorem Rd1.up {α : Type} {f : α → Value} {w w' : World} {A : Option Addr} {xs : List α} (h : Rd1 f w w.heap.size A xs) (hb : Below w.heap.size w w') : Rd1 f w' w'.heap.size A xs := h.below hb hb.size

abbrev vInt (n : Int) : Value := .int .i64 n
abbrev vBool (b : Bool) : Value := .bool b
abbrev RdI (w : World) (B : Nat) (A : Option Addr) (xs : List Int) : Prop := Rd1 vInt w B A xs
abbrev RdB (w : World) (B : Nat) (A : Option Addr) (xs : List Bool) : Prop := Rd1 vBool w B A xs

theorem get_of_lt {α : Type} {l : List α} {k : Nat} (h : k < l.length) : ∃ x, l[k]? = some x := ⟨l[k], List.getElem?_eq_getElem h⟩
theorem mem_of_get {α : Type} {l : List α} {k : Nat} {x : α} (h : l[k]? = some x) : x ∈ l := List.mem_of_getElem? h
theorem lt_of_get {α : Type} {l : List α} {k : Nat} {x : α} (h : l[k]? = some x) : k < l.length := by
  rcases Nat.lt_or_ge k l.length with h' | h'
  · exact h'
  · rw [List.getElem?_eq_none h'] at h; cases h

theorem below_drewN {B : Nat} {a w : World} (h : Below B a w) (n : Nat) : Below B a (w.drewN n) := ⟨h.os, h.tape, h.output, h.size, h.block⟩
theorem bcell {W w1 : World} (hb : Below W.heap.size W w1) : (∀ b o, b < W.heap.size → w1.cell? ⟨b, o, none⟩ = W.cell? ⟨b, o, none⟩) ∧ (∀ b o, b < W.heap.size → w1.frozen? ⟨b, o, none⟩ = W.frozen? ⟨b, o, none⟩) :=
  ⟨fun b o h => hb.cell (p := ⟨b, o, none⟩) h, fun b o h => hb.frozen (p := ⟨b, o, none⟩) h⟩
theorem bvia {a b c : World} (h1 : Below a.heap.size a b) (h2 : Below b.heap.size b c) : Below a.heap.size a c := h1.trans (h2.mono h1.size)
theorem bvia' {B : Nat} {a b c : World} (h1 : Below B a b) (hB : B ≤ a.heap.size) (h2 : Below b.heap.size b c) : Below B a c := h1.trans (h2.mono (Nat.le_trans hB h1.size))
theorem eq_of_get {α : Type} {xs ys : List α} (hl : xs.length = ys.length) (h : ∀ (j : Nat) (x : α), xs[j]? = some x → ys[j]? = some x) : xs = ys := by
  apply List.ext_getElem? 
  intro j
  cases hx : xs[j]? with
  | some x => exact (h j x hx).symm
  | none =>
    have : xs.length ≤ j := by simpa using hx
    exact (List.getElem?_eq_none (by omega)).symm
theorem pw_step {α : Type} {xs ys : List α} {k : Nat} {x y : α} (H : ∀ (j : Nat) (x : α), j < k → xs[j]? = some x → ys[j]? = some x) (hx : xs[k]? = some x) (hy : ys[k]? = some y) (he : x = y) :
    ∀ (j : Nat) (x : α), j < k + 1 → xs[j]? = some x → ys[j]? = some x := fun j z hj hz => by
  rcases Nat.lt_or_ge j k with h | h
  · exact H j z h hz
  · obtain rfl : j = k := by omega
    rw [hx] at hz
    obtain rfl := Option.some.inj hz
    rw [hy, he]
theorem beq_true {α : Type} [BEq α] [LawfulBEq α] {a b : α} (h : a = b) : true = (a == b) := by simpa using h
theorem beq_false {α : Type} [BEq α] [LawfulBEq α] {a b : α} (h : a ≠ b) : false = (a == b) := by simpa using h
theorem ne_of_get {α : Type} {xs ys : List α} {j : Nat} {x y : α} (hx : xs[j]? = some x) (hy : ys[j]? = some y) (h : x ≠ y) : xs ≠ ys := by
  rintro rfl
  rw [hx] at hy
  exact h (Option.some.inj hy)
theorem ne_of_len {α : Type} {xs ys : List α} {n m : Nat} (hx : xs.length = n) (hy : ys.length = m) (h : ¬ n = m) : xs ≠ ys := by
  rintro rfl
  omega

/-! ### words and sheets: what the document says of them -/
def letters : List UInt8 := [67, 84, 76, 82, 80, 99, 116, 108, 114]
def isLet (c : UInt8) : Bool := letters.contains c
def wOk (s : ByteArray) : Bool := s.data.toList.all isLet
/-- the error of a word -/
def wchk (s : ByteArray) : Int := if 16 < s.size then 3 else if wOk s then 0 else 6
def wkBad (p : Int) (x : Wk) : Bool := (x.kind != 1 && x.kind != 2) || decide (x.at_ < 0) || decide (p - 2 < x.at_) || (x.kind == 2 && x.word.size != 0)
/-- the error of a sheet -/
def schk (p : Int) (ws : List Wk) : Int :=
  if 24 < p ∨ 400 < ws.length ∨ ws.any (fun x => decide (16 < x.word.size)) = true then 3 else if p < 2 ∨ ws.any (wkBad p) = true then 2 else if ws.all (fun x => wOk x.word) then 0 else 6

theorem idx_split {l : List UInt8} {c : UInt8} {k : Nat} (hk : l[k]? = some c) (hno : ∀ j, j < k → l[j]? ≠ some c) : l.idxOf? c = some k := by
  induction l generalizing k with
  | nil => simp at hk
  | cons x l ih =>
    cases k with
    | zero => simp at hk; subst hk; simp [List.idxOf?, List.findIdx?_cons]
    | succ k =>
      have h0 := hno 0 (by omega)
      simp at h0 hk
      have := ih hk (fun j hj => by have := hno (j+1) (by omega); simpa using this)
      simp only [List.idxOf?] at this ⊢
      rw [List.findIdx?_cons]
      have hx : (x == c) = false := by simpa using h0
      simp [hx, this]
theorem idx_none {l : List UInt8} {c : UInt8} (hno : ∀ j, j < l.length → l[j]? ≠ some c) : l.idxOf? c = none := by
  simp only [List.idxOf?, List.findIdx?_eq_none_iff]
  intro x hx
  obtain ⟨j, hj, rfl⟩ := List.mem_iff_getElem.1 hx
  have := hno j hj
  rw [List.getElem?_eq_getElem hj] at this
  simpa using this
def idxOf (l : List UInt8) (c : UInt8) : Int := match l.idxOf? c with | some k => k | none => -1
theorem idxOf_some {l : List UInt8} {c : UInt8} {k : Nat} (h : l.idxOf? c = some k) : idxOf l c = k := by unfold idxOf; rw [h]
theorem idxOf_none {l : List UInt8} {c : UInt8} (h : l.idxOf? c = none) : idxOf l c = -1 := by unfold idxOf; rw [h]

theorem byte_eq {a b : UInt8} (h : ((a.toNat : Int) == (b.toNat : Int)) = true) : a = b := by
  have : (a.toNat : Int) = b.toNat := by simpa using h
  exact UInt8.toNat_inj.1 (by omega)
theorem byte_ne {a b : UInt8} (h : ((a.toNat : Int) == (b.toNat : Int)) = false) : a ≠ b := by
  rintro rfl; simp at h
theorem str_get (s : ByteArray) (k : Nat) (h : k < s.size) : s.data.toList[k]? = some s[k] := by
  rw [List.getElem?_eq_getElem (by simpa using h)]; rfl
theorem str_len (s : ByteArray) : s.data.toList.length = s.size := by rw [Array.length_toList]; rfl
/-- two works have a place in common -/
def touch (a b : Int) : Bool := decide (a - b ≤ 1) && decide (b - a ≤ 1)
/-! ### letters -/
theorem isLet_iff (c : UInt8) : isLet c = true ↔ 0 ≤ idxOf letters c := by
  unfold isLet idxOf
  cases h : letters.idxOf? c with
  | none =>
    have : c ∉ letters := by
      simp only [List.idxOf?, List.findIdx?_eq_none_iff] at h
      intro hm
      have := h c hm
      simp at this
    simp [this]
  | some k =>
    have : c ∈ letters := by
      rcases Classical.em (c ∈ letters) with hm | hm
      · exact hm
      · have : letters.idxOf? c = none := by
          simp only [List.idxOf?, List.findIdx?_eq_none_iff]
          intro x hx
          have : x ≠ c := fun e => hm (e ▸ hx)
          simpa using this
        rw [this] at h; cases h
    simp [this]
theorem idx_lt9 (c : UInt8) : idxOf letters c ≤ 8 := by
  unfold idxOf
  cases h : letters.idxOf? c with
  | none => simp
  | some k =>
    have h2 : k < letters.length := by
      simp only [List.idxOf?] at h
      rw [List.findIdx?_eq_some_iff_getElem] at h
      exact h.1
    have h3 : letters.length = 9 := rfl
    show (k : Int) ≤ 8
    omega
theorem idx_ge (c : UInt8) : -1 ≤ idxOf letters c := by
  unfold idxOf
  cases letters.idxOf? c <;> simp
theorem idx_no {c : UInt8} (h : idxOf letters c < 0) : isLet c = false := by
  cases hc : isLet c with
  | false => rfl
  | true => have := (isLet_iff c).1 hc; omega
theorem wOk_of {s : ByteArray} (h : ∀ j, ∀ hj : j < s.size, isLet s[j] = true) : wOk s = true := by
  unfold wOk
  rw [List.all_eq_true]
  intro c hc
  obtain ⟨j, hj, rfl⟩ := List.mem_iff_getElem.1 hc
  rw [str_len] at hj
  exact h j hj
theorem wOk_not {s : ByteArray} {j : Nat} (hj : j < s.size) (h : isLet s[j] = false) : wOk s = false := by
  unfold wOk
  rw [List.all_eq_false]
  exact ⟨s[j], mem_of_get (str_get s j hj), by simp [h]⟩
theorem wOk_get {s : ByteArray} (h : wOk s = true) (j : Nat) (hj : j < s.size) : isLet s[j] = true := by
  unfold wOk at h
  rw [List.all_eq_true] at h
  exact h _ (mem_of_get (str_get s j hj))
theorem wchk_long {s : ByteArray} (h : 16 < s.size) : wchk s = 3 := by unfold wchk; rw [if_pos h]
theorem wchk_ok {s : ByteArray} (h : s.size ≤ 16) (ho : wOk s = true) : wchk s = 0 := by unfold wchk; rw [if_neg (by omega), if_pos ho]
theorem wchk_bad {s : ByteArray} (h : s.size ≤ 16) (ho : wOk s = false) : wchk s = 6 := by unfold wchk; rw [if_neg (by omega), ho]; rfl
theorem wchk_zero {s : ByteArray} (h : wchk s = 0) : s.size ≤ 16 ∧ wOk s = true := by
  unfold wchk at h
  split at h
  · omega
  · split at h
    · exact ⟨by omega, by assumption⟩
    · omega
/-! ### words with other letters -/
/-- a letter's image in a list of nine -/
def img (by_ : List UInt8) (c : UInt8) : UInt8 := by_.getD (idxOf letters c).toNat 0
def chgTo (by_ : List UInt8) (s : ByteArray) (k : Nat) : List UInt8 := (s.data.toList.take k).map (img by_)
def chg (by_ : List UInt8) (s : ByteArray) : ByteArray := ⟨((s.data.toList).map (img by_)).toArray⟩
theorem chgTo_zero (by_ : List UInt8) (s : ByteArray) : chgTo by_ s 0 = [] := rfl
theorem chgTo_succ (by_ : List UInt8) (s : ByteArray) (k : Nat) (h : k < s.size) : chgTo by_ s (k + 1) = chgTo by_ s k ++ [img by_ s[k]] := by
  unfold chgTo
  rw [List.take_add_one, str_get s k h]
  simp
theorem chgTo_len (by_ : List UInt8) (s : ByteArray) (k : Nat) : (chgTo by_ s k).length ≤ k := by unfold chgTo; simp; omega
theorem chgTo_all (by_ : List UInt8) (s : ByteArray) (k : Nat) (h : s.size ≤ k) : chgTo by_ s k = s.data.toList.map (img by_) := by
  unfold chgTo; rw [List.take_of_length_le (by rw [str_len]; exact h)]
theorem ba_ext {a b : ByteArray} (h : a.data.toList = b.data.toList) : a = b := by
  cases a with | mk a => cases b with | mk b =>
    simp only [ByteArray.mk.injEq]
    exact Array.toList_inj.1 h
theorem ext_one (t : ByteArray) (m : Nat) (h : m < t.size) : (t.extract m (m + 1)).data.toList = [t[m]] := by
  rw [ByteArray.data_extract, Array.toList_extract]
  have h2 : t.data.toList[m]? = some t[m] := str_get t m h
  simp only [List.extract, Nat.add_sub_cancel_left]
  apply List.ext_getElem?
  intro j
  rw [List.getElem?_take]
  split
  · obtain rfl : j = 0 := by omega
    rw [List.getElem?_drop]; simpa using h2
  · rw [List.getElem?_eq_none]; simp; omega
theorem app_one (l : List UInt8) (t : ByteArray) (m : Nat) (h : m < t.size) : (⟨l.toArray⟩ : ByteArray) ++ t.extract m (m + 1) = ⟨(l ++ [t[m]]).toArray⟩ := by
  apply ba_ext
  rw [ByteArray.data_append, Array.toList_append, ext_one t m h]
theorem one_app (l : List UInt8) (t : ByteArray) (m : Nat) (h : m < t.size) : t.extract m (m + 1) ++ (⟨l.toArray⟩ : ByteArray) = ⟨(t[m] :: l).toArray⟩ := by
  apply ba_ext
  rw [ByteArray.data_append, Array.toList_append, ext_one t m h]
  rfl
theorem img_at {t : ByteArray} {c : UInt8} {m : Nat} (hm : idxOf letters c = m) (h : m < t.size) : img t.data.toList c = t[m] := by
  unfold img
  rw [hm, Int.toNat_natCast, List.getD_eq_getElem?_getD, str_get t m h]
  rfl
/-! ### sheets -/
theorem schk_long {p : Int} {ws : List Wk} (h : 24 < p ∨ 400 < ws.length ∨ ∃ (k : Nat) (x : Wk), ws[k]? = some x ∧ 16 < x.word.size) : schk p ws = 3 := by
  unfold schk
  rw [if_pos]
  rcases h with h | h | ⟨k, x, hk, hx⟩
  · exact .inl h
  · exact .inr (.inl h)
  · exact .inr (.inr (List.any_eq_true.2 ⟨x, mem_of_get hk, by simpa using hx⟩))
theorem schk_arg {p : Int} {ws : List Wk} (h1 : p ≤ 24) (h2 : ws.length ≤ 400) (h3 : ∀ (k : Nat) (x : Wk), ws[k]? = some x → x.word.size ≤ 16) (h : p < 2 ∨ ∃ (k : Nat) (x : Wk), ws[k]? = some x ∧ wkBad p x = true) : schk p ws = 2 := by
  unfold schk
  rw [if_neg, if_pos]
  · rcases h with h | ⟨k, x, hk, hx⟩
    · exact .inl h
    · exact .inr (List.any_eq_true.2 ⟨x, mem_of_get hk, hx⟩)
  · rintro (h | h | h)
    · omega
    · omega
    · obtain ⟨x, hx, h⟩ := List.any_eq_true.1 h
      obtain ⟨k, hk, rfl⟩ := List.mem_iff_getElem.1 hx
      have := h3 k _ (List.getElem?_eq_getElem hk)
      simp at h; omega
theorem schk_form {p : Int} {ws : List Wk} (h1 : p ≤ 24) (h2 : ws.length ≤ 400) (h3 : ∀ (k : Nat) (x : Wk), ws[k]? = some x → x.word.size ≤ 16) (h4 : 2 ≤ p) (h5 : ∀ (k : Nat) (x : Wk), ws[k]? = some x → wkBad p x = false) :
    schk p ws = if ws.all (fun x => wOk x.word) then 0 else 6 := by
  unfold schk
  rw [if_neg, if_neg]
  · rintro (h | h)
    · omega
    · obtain ⟨x, hx, h⟩ := List.any_eq_true.1 h
      obtain ⟨k, hk, rfl⟩ := List.mem_iff_getElem.1 hx
      rw [h5 k _ (List.getElem?_eq_getElem hk)] at h; cases h
  · rintro (h | h | h)
    · omega
    · omega
    · obtain ⟨x, hx, h⟩ := List.any_eq_true.1 h
      obtain ⟨k, hk, rfl⟩ := List.mem_iff_getElem.1 hx
      have := h3 k _ (List.getElem?_eq_getElem hk)
      simp at h; omega
theorem schk_bad {p : Int} {ws : List Wk} (h1 : p ≤ 24) (h2 : ws.length ≤ 400) (h3 : ∀ (k : Nat) (x : Wk), ws[k]? = some x → x.word.size ≤ 16) (h4 : 2 ≤ p) (h5 : ∀ (k : Nat) (x : Wk), ws[k]? = some x → wkBad p x = false)
    (h : ∃ (k : Nat) (x : Wk), ws[k]? = some x ∧ wOk x.word = false) : schk p ws = 6 := by
  rw [schk_form h1 h2 h3 h4 h5, if_neg]
  obtain ⟨k, x, hk, hx⟩ := h
  intro ha
  rw [List.all_eq_true] at ha
  rw [ha x (mem_of_get hk)] at hx
  cases hx
theorem schk_ok {p : Int} {ws : List Wk} (h1 : p ≤ 24) (h2 : ws.length ≤ 400) (h3 : ∀ (k : Nat) (x : Wk), ws[k]? = some x → x.word.size ≤ 16) (h4 : 2 ≤ p) (h5 : ∀ (k : Nat) (x : Wk), ws[k]? = some x → wkBad p x = false)
    (h : ∀ (k : Nat) (x : Wk), ws[k]? = some x → wOk x.word = true) : schk p ws = 0 := by
  rw [schk_form h1 h2 h3 h4 h5, if_pos]
  rw [List.all_eq_true]
  intro x hx
  obtain ⟨k, hk, rfl⟩ := List.mem_iff_getElem.1 hx
  exact h k _ (List.getElem?_eq_getElem hk)
/-- a valid sheet -/
structure SOk (p : Int) (ws : List Wk) : Prop where
  le : p ≤ 24
  ge : 2 ≤ p
  len : ws.length ≤ 400
  short : ∀ x ∈ ws, x.word.size ≤ 16
  good : ∀ x ∈ ws, wkBad p x = false
  form : ∀ x ∈ ws, wOk x.word = true
theorem schk_zero {p : Int} {ws : List Wk} (h : schk p ws = 0) : SOk p ws := by
  unfold schk at h
  split at h
  · omega
  rename_i h1
  split at h
  · omega
  rename_i h2
  split at h
  · rename_i h3
    rw [List.all_eq_true] at h3
    refine ⟨by omega, by omega, by omega, fun x hx => ?_, fun x hx => ?_, h3⟩
    · rcases Nat.lt_or_ge 16 x.word.size with hh | hh
      · exact absurd (.inr (.inr (List.any_eq_true.2 ⟨x, hx, by simpa using hh⟩))) h1
      · exact hh
    · cases hb : wkBad p x with
      | false => rfl
      | true => exact absurd (.inr (List.any_eq_true.2 ⟨x, hx, hb⟩)) h2
  · omega
theorem schk_of {p : Int} {ws : List Wk} (h : SOk p ws) : schk p ws = 0 :=
  schk_ok h.le h.len (fun _ _ hk => h.short _ (mem_of_get hk)) h.ge (fun _ _ hk => h.good _ (mem_of_get hk)) (fun _ _ hk => h.form _ (mem_of_get hk))
theorem schk_iff {p : Int} {ws : List Wk} : schk p ws = 0 ↔ SOk p ws := ⟨schk_zero, schk_of⟩
theorem bad_at {p : Int} {x : Wk} (h : wkBad p x = false) : (x.kind = 1 ∨ x.kind = 2) ∧ 0 ≤ x.at_ ∧ x.at_ ≤ p - 2 ∧ (x.kind = 2 → x.word.size = 0) := by
  unfold wkBad at h
  simp only [Bool.or_eq_false_iff, Bool.and_eq_false_iff, decide_eq_false_iff_not, bne_eq_false_iff_eq, beq_eq_false_iff_ne] at h
  obtain ⟨⟨⟨h1, h2⟩, h3⟩, h4⟩ := h
  exact ⟨h1, by omega, by omega, fun h => by
    rcases h4 with h4 | h4
    · exact absurd h h4
    · exact h4⟩
theorem empty_iff {s : ByteArray} : s.toList.isEmpty = (s.size == 0) := by
  rw [ByteArray.toList_eq]
  have := str_len s
  cases h : s.data.toList with
  | nil => rw [h] at this; simp at this; simp [← this]
  | cons a l => rw [h] at this; simp at this; simp [← this]
theorem wkBad_of {p : Int} {x : Wk} (h : (¬ x.kind = 1 ∧ ¬ x.kind = 2) ∨ x.at_ < 0 ∨ p - 2 < x.at_ ∨ (x.kind = 2 ∧ (!x.word.toList.isEmpty) = true)) : wkBad p x = true := by
  unfold wkBad
  rw [empty_iff] at h
  simp only [Bool.or_eq_true, Bool.and_eq_true, bne_iff_ne, beq_iff_eq, decide_eq_true_eq, ne_eq]
  rcases h with h | h | h | ⟨h, h'⟩
  · exact .inl (.inl (.inl h))
  · exact .inl (.inl (.inr h))
  · exact .inl (.inr h)
  · exact .inr ⟨h, by simpa using h'⟩
theorem wkGood_of {p : Int} {x : Wk} (h1 : x.kind = 1 ∨ (x.kind = 2 ∧ (!x.word.toList.isEmpty) = false)) (h2 : ¬ x.at_ < 0) (h3 : ¬ p - 2 < x.at_) : wkBad p x = false := by
  unfold wkBad
  rw [empty_iff] at h1
  simp only [Bool.or_eq_false_iff, Bool.and_eq_false_iff, decide_eq_false_iff_not, bne_eq_false_iff_eq, beq_eq_false_iff_ne, ne_eq]
  refine ⟨⟨⟨?_, h2⟩, h3⟩, ?_⟩
  · rcases h1 with h | ⟨h, _⟩
    · exact .inl h
    · exact .inr h
  · rcases h1 with h | ⟨_, h⟩
    · left; omega
    · right; simpa using h
theorem get_step {α : Type} {ws : List α} {Q : α → Prop} {k : Nat} {x : α} (H : ∀ (j : Nat) (y : α), j < k → ws[j]? = some y → Q y) (hx : ws[k]? = some x) (hq : Q x) : ∀ (j : Nat) (y : α), j < k + 1 → ws[j]? = some y → Q y := fun j y hj hy => by
  rcases Nat.lt_or_ge j k with h | h
  · exact H j y h hy
  · obtain rfl : j = k := by omega
    rw [hx] at hy
    obtain rfl := Option.some.inj hy
    exact hq
theorem get_all {α : Type} {ws : List α} {Q : α → Prop} {k : Nat} (H : ∀ (j : Nat) (y : α), j < k → ws[j]? = some y → Q y) (hk : ws.length ≤ k) : ∀ (j : Nat) (y : α), ws[j]? = some y → Q y := fun j y hy => H j y (by have := lt_of_get hy; omega) hy
end Go.Proofs.Ytmghpaibdgkbfaa
/-
  Rows of the call's own (append), read as lists; regions that draw their order whose calls make memory.
-/
namespace Go.Proofs.Ytmghpaibdgkbfaa
open Go.RowKit

/-! ### regions whose order is drawn: calls may make memory -/
/-- a world that has all that w has, unchanged -/
structure Ext (w : World) where
  out : World
  below : Below w.heap.size w out
instance Ext.some_ (w : World) : Nonempty (Ext w) := ⟨⟨w, Below.refl _ _⟩⟩
theorem Ext.cell {w : World} (x : Ext w) (b o : Nat) (h : b < w.heap.size) : x.out.cell? ⟨b, o, none⟩ = w.cell? ⟨b, o, none⟩ := x.below.cell (p := ⟨b, o, none⟩) h
theorem wp_region_ext {P : Program} {id : Nat} {Q : Exit → Act → World → Prop} {a : Act} {w : World} {l : List Oper} (hm : P.follows .mixedOrders = true) (hB : Region.lexB .any l.toArray = true)
    (h : wpQuiet P l.toArray (fun w' => ∃ x : Ext w, w' = x.out) (fun a' => ∀ w', (∃ x : Ext w, w' = x.out) → Q .normal a' w') l a) : (Code.region id l.toArray true).wp P Q a w :=
  wp_region_quiet (C := fun w' => ∃ x : Ext w, w' = x.out) hm hB ⟨⟨{ w with drawn := w.drawn + 1 }, ⟨rfl, rfl, rfl, Nat.le_refl _, fun _ _ => rfl⟩⟩, rfl⟩ (by simpa using h)
theorem ext_below {w w' : World} (h : ∃ x : Ext w, w' = x.out) : Below w.heap.size w w' := by
  obtain ⟨x, rfl⟩ := h; exact x.below
theorem ext_call {P : Program} {f : FuncId} {args : Array Value} {w : World} {x : Ext w} {v : Value}
    (h : Calls P f args x.out fun e w' => e = .returned v ∧ Below x.out.heap.size x.out w') : Calls P f args x.out fun e w'' => e = .returned v ∧ ∃ y : Ext w, w'' = y.out :=
  h.mono fun _ w' ⟨he, hb⟩ => ⟨he, ⟨w', bvia x.below hb⟩, rfl⟩
theorem ext_same {P : Program} {f : FuncId} {args : Array Value} {w : World} {x : Ext w} {v : Value}
    (h : Calls P f args x.out fun e w' => e = .returned v ∧ x.out = w') : Calls P f args x.out fun e w'' => e = .returned v ∧ ∃ y : Ext w, w'' = y.out :=
  h.mono fun _ _ ⟨he, hb⟩ => ⟨he, x, hb.symm⟩

/-! ### append of one element -/
theorem wpList_app {P : Program} {w : World} {ops : Array Oper} {rest : List Oper} {o : Oper} {a : Act} {Q : Exit → Act → World → Prop} (hgd : o.guard = none) (s x : Operand) (t : TypeId)
    (ho : o.op = .call { callee := .builtin .append, args := #[s, x], argTypes := #[t, t] })
    (base : Nat) (e : TypeId) (z : Value) (size bytes : Nat) (ht : P.underlying t = some (.slice e)) (hinf : (P.info? e).map (fun i => (i.zero, i.size, i.bytes)) = some (some z, size, bytes))
    (hzs : z.cells.size = size) (hsz : 0 < size) (hby : bytes ≤ 100)
    (v : Value) (n : Nat) (xs : List Value) (hs : a.eval s = v) (hown : w.ownsRow base e size v n xs)
    (b : Nat) (news : List Value) (hx : a.eval x = .slice (some ⟨b, 0, none⟩) 1 1) (hl : news.length = size) (hnews : ∀ j u, news[j]? = some u → w.cell? ⟨b, j, none⟩ = some u) (h1 : ∀ u ∈ news, u.oneCell' = true)
    (hn : n ≤ 1000000000) (hbase : base ≤ w.heap.size)
    (h : ∀ g cap w', base ≤ g → w'.ownsRow base e size (.slice (some ⟨g, 0, none⟩) (n + 1) cap) (n + 1) (xs ++ news) → w.grownBy w' v.ownBlock → (some g = v.ownBlock ∨ g = w.heap.size) →
      wpList P ops Q rest (a.put o.dst (.slice (some ⟨g, 0, none⟩) (n + 1) cap)) w') : wpList P ops Q (o :: rest) a w := by
  obtain ⟨i, hi, hz, hsize, hb⟩ := info_parts hinf
  refine wpList_plain hgd fun K hK => ?_
  have hmul : (n + 1) * bytes ≤ 140737488355328 := by
    have : (n + 1) * bytes ≤ 1000000001 * 100 := Nat.mul_le_mul (by omega) hby
    omega
  obtain ⟨v', w', hrun, h2, h3, h4, h5⟩ := run_append_own_at (P := P) w base t o.type e i z size bytes ht hi hz hsize hb hzs hsz v n xs hown ⟨b, 0, none⟩ 1 1 news (by rw [hl, Nat.one_mul]) (fun j u hu => by
    have := hnews j u hu
    have hadd : (⟨b, 0, none⟩ : Addr).add j = ⟨b, j, none⟩ := by unfold Addr.add; split <;> simp_all
    rw [hadd]; exact this) h1 (by simp only [maxLen]; omega) hmul hbase
  have hnn : v' ≠ .slice none 0 0 := fun e => by have := h4.1 e; omega
  rcases h2.2 with ⟨rfl, _⟩ | ⟨g, cap, cur, rfl, hg, _⟩
  · exact absurd rfl hnn
  · unfold Oper.wp execOp
    simp only [ho, resolve, invoke, builtin, Sem.run_bind, Sem.run_pure, Result.andThen_ok, List.map_toArray, List.map_cons, List.map_nil, hs, hx, hrun]
    refine hK _ _ (h g cap w' hg h2 h3 ?_)
    rcases h5 with h5 | h5
    · left; rw [← h5]; rfl
    · right; simpa [Value.ownBlock] using h5

theorem news_new (w : World) (x : Value) (t : TypeId) : ∀ j u, [x][j]? = some u → (w.alloc (.cells #[x] t)).cell? ⟨w.heap.size, j, none⟩ = some u := fun j u hu => by
  match j, hu with
  | 0, hu => simp at hu; subst hu; go_simp
  | j + 1, hu => simp at hu
theorem one_int (k : IntKind) (n : Int) : ∀ u ∈ [Value.int k n], u.oneCell' = true := fun u hu => by simp at hu; subst hu; rfl
/-- a row owned stays owned while only what is new changes -/
theorem own_below {w w' : World} {base : Nat} {e : TypeId} {size n : Nat} {v : Value} {xs : List Value} (h : w.ownsRow base e size v n xs) (hb : Below w.heap.size w w') : w'.ownsRow base e size v n xs :=
  h.kept (row := none) ⟨hb.os, hb.tape, hb.output, hb.size, fun i hi _ => hb.block i hi⟩ (by cases hv : v.ownBlock <;> simp)
theorem own_lit0 {w : World} {base : Nat} {e : TypeId} {size : Nat} (h : base ≤ w.heap.size) : (w.alloc (.cells #[] e)).ownsRow base e size (.slice (some ⟨w.heap.size, 0, none⟩) 0 0) 0 [] :=
  World.ownsRow_lit w #[] 0 h (by unfold maxLen; omega) (by simp)
theorem own_lit1 {w : World} {base : Nat} {e : TypeId} (x : Value) (h : base ≤ w.heap.size) : (w.alloc (.cells #[x] e)).ownsRow base e 1 (.slice (some ⟨w.heap.size, 0, none⟩) 1 1) 1 [x] :=
  World.ownsRow_lit w #[x] 1 h (by unfold maxLen; omega) rfl
/-! ### append of several elements, in a region whose order is drawn -/
theorem wp_appN {P : Program} {w : World} {o : Oper} {a : Act} {K : Act → World → Prop} {Q : Exit → Act → World → Prop} (s x : Operand) (t : TypeId)
    (ho : o.op = .call { callee := .builtin .append, args := #[s, x], argTypes := #[t, t] })
    (base : Nat) (e : TypeId) (z : Value) (size bytes : Nat) (ht : P.underlying t = some (.slice e)) (hinf : (P.info? e).map (fun i => (i.zero, i.size, i.bytes)) = some (some z, size, bytes))
    (hzs : z.cells.size = size) (hsz : 0 < size) (hby : bytes ≤ 100)
    (v : Value) (n : Nat) (xs : List Value) (hs : a.eval s = v) (hown : w.ownsRow base e size v n xs)
    (ad : Addr) (m c : Nat) (news : List Value) (hx : a.eval x = .slice (some ad) m c) (hl : news.length = m * size) (hnews : ∀ j u, news[j]? = some u → w.cell? (ad.add j) = some u) (h1 : ∀ u ∈ news, u.oneCell' = true)
    (hn : n + m ≤ 1000000000) (hbase : base ≤ w.heap.size)
    (h : ∀ v' w', w'.ownsRow base e size v' (n + m) (xs ++ news) → w.grownBy w' v.ownBlock → (v' = .slice none 0 0 ↔ v = .slice none 0 0 ∧ m = 0) → (v'.ownBlock = v.ownBlock ∨ v'.ownBlock = some w.heap.size) → K (a.put o.dst v') w') : o.wp P a w K Q := by
  obtain ⟨i, hi, hz, hsize, hb⟩ := info_parts hinf
  have hmul : (n + m) * bytes ≤ 140737488355328 := by
    have : (n + m) * bytes ≤ 1000000000 * 100 := Nat.mul_le_mul (by omega) hby
    omega
  obtain ⟨v', w', hrun, h2, h3, h4, h5⟩ := run_append_own_at (P := P) w base t o.type e i z size bytes ht hi hz hsize hb hzs hsz v n xs hown ad m c news hl hnews h1 (by simp only [maxLen]; omega) hmul hbase
  unfold Oper.wp execOp
  simp only [ho, resolve, invoke, builtin, Sem.run_bind, Sem.run_pure, Result.andThen_ok, List.map_toArray, List.map_cons, List.map_nil, hs, hx, hrun]
  exact h v' w' h2 h3 h4 h5
theorem step_appN {P : Program} {w : World} {ops : Array Oper} {o : Oper} {a : Act} {K : Act → World → Prop} {Q : Exit → Act → World → Prop} {E : Prop} (hgd : o.guard = none) (s x : Operand) (t : TypeId)
    (ho : o.op = .call { callee := .builtin .append, args := #[s, x], argTypes := #[t, t] })
    (base : Nat) (e : TypeId) (z : Value) (size bytes : Nat) (ht : P.underlying t = some (.slice e)) (hinf : (P.info? e).map (fun i => (i.zero, i.size, i.bytes)) = some (some z, size, bytes))
    (hzs : z.cells.size = size) (hsz : 0 < size) (hby : bytes ≤ 100)
    (v : Value) (n : Nat) (xs : List Value) (hs : a.eval s = v) (hown : w.ownsRow base e size v n xs)
    (ad : Addr) (m c : Nat) (news : List Value) (hx : a.eval x = .slice (some ad) m c) (hl : news.length = m * size) (hnews : ∀ j u, news[j]? = some u → w.cell? (ad.add j) = some u) (h1 : ∀ u ∈ news, u.oneCell' = true)
    (hn : n + m ≤ 1000000000) (hbase : base ≤ w.heap.size)
    (h : ∀ v' w', w'.ownsRow base e size v' (n + m) (xs ++ news) → w.grownBy w' v.ownBlock → (v' = .slice none 0 0 ↔ v = .slice none 0 0 ∧ m = 0) → (v'.ownBlock = v.ownBlock ∨ v'.ownBlock = some w.heap.size) → K (a.put o.dst v') w') :
    if Region.wanted o (yielded ops a.tmps) = true then o.wp P a w K Q else E := by
  have hw : Region.wanted o (yielded ops a.tmps) = true := by simp [Region.wanted, hgd]
  rw [if_pos hw]
  exact wp_appN s x t ho base e z size bytes ht hinf hzs hsz hby v n xs hs hown ad m c news hx hl hnews h1 hn hbase h

/-! ### a block of the call's own that is written in place -/
/-- block g holds just these cells, none frozen -/
def Has (w : World) (g : Nat) (t : TypeId) (cs : List Value) : Prop := w.heap[g]? = some (.cells cs.toArray t (0, 0))
theorem Has.lt {w : World} {g : Nat} {t : TypeId} {cs : List Value} (h : Has w g t cs) : g < w.heap.size := (Array.getElem?_eq_some_iff.1 h).1
theorem Has.cell {w : World} {g : Nat} {t : TypeId} {cs : List Value} (h : Has w g t cs) (i : Nat) : w.cell? ⟨g, i, none⟩ = cs[i]? := by
  unfold Has at h; simp [World.cell?, h]
theorem Has.free {w : World} {g : Nat} {t : TypeId} {cs : List Value} (h : Has w g t cs) (i : Nat) : w.frozen? ⟨g, i, none⟩ = false := by
  unfold Has at h; simp [World.frozen?, h]
theorem Has.new {w : World} {arr : Array Value} {t : TypeId} {cs : List Value} (h : arr = cs.toArray) : Has (w.alloc (.cells arr t)) w.heap.size t cs := by
  subst h; exact heap_alloc_new w _
theorem Has.far {w : World} {g : Nat} {t : TypeId} {cs : List Value} (h : Has w g t cs) {b : Nat} (hb : g ≠ b) (i : Nat) (u : Value) : Has (w.setCell ⟨b, i, none⟩ u) g t cs := (Below.heap_setCell w _ u g hb).trans h
theorem Has.same {w w' : World} {g : Nat} {t : TypeId} {cs : List Value} (h : Has w g t cs) (e : w'.heap[g]? = w.heap[g]?) : Has w' g t cs := e.trans h
theorem Has.below {w w' : World} {B g : Nat} {t : TypeId} {cs : List Value} (h : Has w g t cs) (hb : Below B w w') (hg : g < B) : Has w' g t cs := h.same (hb.block g hg)
theorem Has.alloc {w : World} {g : Nat} {t : TypeId} {cs : List Value} (h : Has w g t cs) (o : Obj) : Has (w.alloc o) g t cs := h.same (Below.heap_alloc w o g h.lt)
theorem Has.set {w : World} {g : Nat} {t : TypeId} {cs : List Value} (h : Has w g t cs) (i : Nat) (u : Value) : Has (w.setCell ⟨g, i, none⟩ u) g t (cs.set i u) := by
  unfold Has at h ⊢
  simp [World.setCell, Array.getElem?_modify, h]
theorem Has.drew {w : World} {g : Nat} {t : TypeId} {cs : List Value} (h : Has w g t cs) : Has w.drew g t cs := h
theorem Has.drewN {w : World} {g : Nat} {t : TypeId} {cs : List Value} (h : Has w g t cs) (n : Nat) : Has (w.drewN n) g t cs := h
/-- everything but one block is as it was -/
def But (g : Nat) (w w' : World) : Prop := w.grownBy w' (some g)
theorem But.refl (g : Nat) (w : World) : But g w w := ⟨rfl, rfl, rfl, Nat.le_refl _, fun _ _ _ => rfl⟩
theorem But.trans {g : Nat} {a b c : World} (h : But g a b) (k : But g b c) : But g a c :=
  ⟨k.os.trans h.os, k.tape.trans h.tape, k.output.trans h.output, Nat.le_trans h.size k.size, fun i hi hne => (k.block i (Nat.lt_of_lt_of_le hi h.size) hne).trans (h.block i hi hne)⟩
theorem But.of_below {g : Nat} {w w' : World} (h : Below w.heap.size w w') : But g w w' := ⟨h.os, h.tape, h.output, h.size, fun i hi _ => h.block i hi⟩
theorem But.set (g : Nat) (w : World) (i : Nat) (u : Value) : But g w (w.setCell ⟨g, i, none⟩ u) :=
  ⟨rfl, rfl, rfl, by simp [World.setCell], fun k _ hne => Below.heap_setCell w _ u k (fun e => hne (by rw [e]))⟩
theorem But.alloc {g : Nat} {w w' : World} (h : But g w w') (o : Obj) : But g w (w'.alloc o) := h.trans (But.of_below ((Below.refl _ _).alloc (Nat.le_refl _) _))
theorem But.drew {g : Nat} {w w' : World} (h : But g w w') : But g w w'.drew := ⟨h.os, h.tape, h.output, h.size, h.block⟩
theorem But.drewN {g : Nat} {w w' : World} (h : But g w w') (n : Nat) : But g w (w'.drewN n) := ⟨h.os, h.tape, h.output, h.size, h.block⟩
theorem But.below {B g : Nat} {w w' : World} (h : But g w w') (hg : B ≤ g) (hB : B ≤ w.heap.size) : Below B w w' := ⟨h.os, h.tape, h.output, h.size, fun i hi => h.block i (by omega) (by intro e; injection e; omega)⟩
theorem But.own {g : Nat} {w w' : World} (h : But g w w') {base : Nat} {e : TypeId} {size n : Nat} {v : Value} {xs : List Value} (ho : w.ownsRow base e size v n xs) (hne : v.ownBlock ≠ some g) : w'.ownsRow base e size v n xs := ho.kept h (.inr hne)
theorem But.has {g g' : Nat} {w w' : World} (h : But g w w') {t : TypeId} {cs : List Value} (hh : Has w g' t cs) (hne : g' ≠ g) : Has w' g' t cs := hh.same (h.block g' hh.lt (by intro e; injection e; omega))
theorem But.cell {g : Nat} {w w' : World} (h : But g w w') {b o : Nat} (hb : b < w.heap.size) (hne : b ≠ g) : w'.cell? ⟨b, o, none⟩ = w.cell? ⟨b, o, none⟩ := World.cell?_of_block (h.block b hb (by intro e; injection e; omega))
/-- two blocks of different types are two -/
theorem Has.ne_own {w : World} {g : Nat} {t : TypeId} {cs : List Value} (h : Has w g t cs) {base : Nat} {e : TypeId} {size n : Nat} {v : Value} {xs : List Value} (ho : w.ownsRow base e size v n xs) (hne : t ≠ e) : v.ownBlock ≠ some g := by
  rcases ho.2 with ⟨rfl, _⟩ | ⟨g', cap, cur, rfl, _, hh, _⟩
  · simp [Value.ownBlock]
  · intro he
    have : g' = g := by simpa [Value.ownBlock] using he
    subst this
    unfold Has at h
    rw [hh] at h
    injection h with h
    injection h with _ h
    exact hne h.symm

/-! ### results that lie in memory -/
theorem post_cell {P : Program} {fn : Func} {R : Ending → World → Prop} {a : Act} {w : World} {g : Nat} {t ty : TypeId} {p : Tmp} {cs : List Value} {fs : Array Field} (hh : Has w g t cs) (hres : fn.results = #[.cell p ty])
    (hp : a.tmps.getD p undef = .pointer (some ⟨g, 0, none⟩)) (hd : a.defers = []) (hu : P.underlying ty = some (.struct fs)) (hi : (P.info? ty).map (·.size) = some cs.toArray.size)
    (hR : R (.returned (.agg cs.toArray)) w) : bodyPost P fn R .ret a w :=
  bodyPost_ret (v := .agg cs.toArray) (results_cell_row hres _ _ g t cs.toArray (0, 0) (.struct fs) hp hh hu rfl hi) hd hR
theorem post_cell_tmp {P : Program} {fn : Func} {R : Ending → World → Prop} {a : Act} {w : World} {g : Nat} {t ty : TypeId} {p u : Tmp} {cs : List Value} {v : Value} {fs : Array Field} (hh : Has w g t cs) (hres : fn.results = #[.cell p ty, .tmp u])
    (hp : a.tmps.getD p undef = .pointer (some ⟨g, 0, none⟩)) (hv : a.tmps.getD u undef = v) (hd : a.defers = []) (hu : P.underlying ty = some (.struct fs)) (hi : (P.info? ty).map (·.size) = some cs.toArray.size)
    (hR : R (.returned (.tuple #[.agg cs.toArray, v])) w) : bodyPost P fn R .ret a w := by
  refine bodyPost_ret (v := .tuple #[.agg cs.toArray, v]) ?_ hd hR
  have hl := run_loadVar_row (P := P) w g t ty cs.toArray (0, 0) (.struct fs) hh hu rfl hi
  rw [results_cell_tmp hres, hp, hv]
  simp [asAddr, hl, Result.andThen]
/-! ### a row of the call's own read as a list -/
theorem own_at {w : World} {base : Nat} {e : TypeId} {size n c : Nat} {A : Option Addr} {xs : List Value} (h : w.ownsRow base e size (.slice A n c) n xs) {j : Nat} {u : Value} (hu : xs[j]? = some u) :
    ∃ g, A = some ⟨g, 0, none⟩ ∧ base ≤ g ∧ g < w.heap.size ∧ w.cell? ⟨g, j, none⟩ = some u := by
  have hj := lt_of_get hu
  rcases h.2 with ⟨hv, h0⟩ | ⟨g, cap, cur, hv, hg, hh, _⟩
  · rw [h.1, h0] at hj; omega
  · injection hv with h1 h2 h3
    subst h1
    refine ⟨g, rfl, hg, (Array.getElem?_eq_some_iff.1 hh).1, ?_⟩
    rw [h.cellAt j (by rw [← h.1]; exact hj), hu]
theorem own_rd1 {α : Type} {f : α → Value} {w : World} {base : Nat} {e : TypeId} {n c : Nat} {A : Option Addr} {xs : List α} (h : w.ownsRow base e 1 (.slice A n c) n (xs.map f)) : Rd1 f w w.heap.size A xs := fun k x hx => by
  obtain ⟨g, h1, _, h2, h3⟩ := own_at h (j := k) (u := f x) (by rw [List.getElem?_map, hx]; rfl)
  exact ⟨g, 0, h1, h2, by rw [Nat.zero_add]; exact h3⟩
def wkCells (x : Wk) : List Value := [.int .i64 x.kind, .int .i64 x.at_, .string x.word]
def wksCells (ws : List Wk) : List Value := ws.flatMap wkCells
theorem news_wk (w : World) (x : Wk) (t : TypeId) : ∀ j u, (wkCells x)[j]? = some u → (w.alloc (.cells #[.int .i64 x.kind, .int .i64 x.at_, .string x.word] t)).cell? ⟨w.heap.size, j, none⟩ = some u := fun j u hu => by
  match j, hu with
  | 0, hu => simp [wkCells] at hu; subst hu; go_simp
  | 1, hu => simp [wkCells] at hu; subst hu; go_simp
  | 2, hu => simp [wkCells] at hu; subst hu; go_simp
  | j + 3, hu => simp [wkCells] at hu
theorem one_wk (x : Wk) : ∀ u ∈ wkCells x, u.oneCell' = true := fun u hu => by
  simp only [wkCells, List.mem_cons, List.not_mem_nil, or_false] at hu
  rcases hu with rfl | rfl | rfl <;> rfl
theorem wksCells_len (ws : List Wk) : (wksCells ws).length = ws.length * 3 := by
  induction ws with
  | nil => rfl
  | cons x ws ih => simp only [wksCells, List.flatMap_cons, List.length_append] at ih ⊢; rw [ih]; simp [wkCells]; omega
theorem wksCells_get {ws : List Wk} {k : Nat} {x : Wk} (hx : ws[k]? = some x) : (wksCells ws)[k*3]? = some (.int .i64 x.kind) ∧ (wksCells ws)[k*3+1]? = some (.int .i64 x.at_) ∧ (wksCells ws)[k*3+2]? = some (.string x.word) := by
  induction ws generalizing k with
  | nil => simp at hx
  | cons y ws ih =>
    cases k with
    | zero => simp at hx; subst hx; simp [wksCells, wkCells]
    | succ k =>
      have := ih (k := k) (by simpa using hx)
      have e1 : (k + 1) * 3 = k * 3 + 3 := by omega
      simp only [wksCells, List.flatMap_cons] at this ⊢
      rw [e1]
      have hl : (wkCells y).length = 3 := rfl
      refine ⟨?_, ?_, ?_⟩ <;> (rw [List.getElem?_append_right (by rw [hl]; omega), hl])
      · rw [show k * 3 + 3 - 3 = k * 3 by omega]; exact this.1
      · rw [show k * 3 + 3 + 1 - 3 = k * 3 + 1 by omega]; exact this.2.1
      · rw [show k * 3 + 3 + 2 - 3 = k * 3 + 2 by omega]; exact this.2.2
theorem wksCells_app (ws : List Wk) (x : Wk) : wksCells (ws ++ [x]) = wksCells ws ++ wkCells x := by simp [wksCells]
theorem own_rdW {w : World} {base : Nat} {e : TypeId} {n c : Nat} {A : Option Addr} {ws : List Wk} (h : w.ownsRow base e 3 (.slice A n c) n (wksCells ws)) : RdW w w.heap.size A ws := fun k x hx => by
  obtain ⟨e1, e2, e3⟩ := wksCells_get hx
  obtain ⟨g, h1, _, h2, h3⟩ := own_at h e1
  obtain ⟨g2, h4, _, _, h5⟩ := own_at h e2
  obtain ⟨g3, h6, _, _, h7⟩ := own_at h e3
  obtain rfl : g = g2 := by rw [h1] at h4; injection h4 with h4; injection h4
  obtain rfl : g = g3 := by rw [h1] at h6; injection h6 with h6; injection h6
  exact ⟨g, 0, h1, h2, by rw [Nat.zero_add]; exact h3, by rw [Nat.zero_add]; exact h5, by rw [Nat.zero_add]; exact h7⟩

abbrev vNat (k : Nat) : Value := .int .i64 (k : Int)
theorem own_wk {w : World} {base : Nat} {e : TypeId} {n c : Nat} {A : Option Addr} {ws : List Wk} (h : w.ownsRow base e 3 (.slice A n c) n (wksCells ws)) {k : Nat} {x : Wk} (hx : ws[k]? = some x) :
    ∃ g, A = some ⟨g, 0, none⟩ ∧ base ≤ g ∧ g < w.heap.size ∧ w.cell? ⟨g, k*3, none⟩ = some (.int .i64 x.kind) ∧ w.cell? ⟨g, k*3+1, none⟩ = some (.int .i64 x.at_) ∧ w.cell? ⟨g, k*3+2, none⟩ = some (.string x.word) := by
  obtain ⟨e1, e2, e3⟩ := wksCells_get hx
  obtain ⟨g, h1, h0, h2, h3⟩ := own_at h e1
  obtain ⟨g2, h4, _, _, h5⟩ := own_at h e2
  obtain ⟨g3, h6, _, _, h7⟩ := own_at h e3
  obtain rfl : g = g2 := by rw [h1] at h4; injection h4 with h4; injection h4
  obtain rfl : g = g3 := by rw [h1] at h6; injection h6 with h6; injection h6
  exact ⟨g, h1, h0, h2, h3, h5, h7⟩
theorem wksCells_take (ws : List Wk) (t : Nat) (h : t ≤ ws.length) : (wksCells ws).take (t*3) = wksCells (ws.take t) := by
  conv => lhs; rw [← List.take_append_drop t ws]
  simp only [wksCells, List.flatMap_append]
  have : ((ws.take t).flatMap wkCells).length = t * 3 := by
    have := wksCells_len (ws.take t)
    simp only [wksCells, List.length_take] at this
    rw [this, Nat.min_eq_left h]
  rw [List.take_append_of_le_length (by omega), List.take_of_length_le (by omega)]
theorem wksCells_drop (ws : List Wk) (t : Nat) (h : t ≤ ws.length) : (wksCells ws).drop (t*3) = wksCells (ws.drop t) := by
  conv => lhs; rw [← List.take_append_drop t ws]
  simp only [wksCells, List.flatMap_append]
  have : ((ws.take t).flatMap wkCells).length = t * 3 := by
    have := wksCells_len (ws.take t)
    simp only [wksCells, List.length_take] at this
    rw [this, Nat.min_eq_left h]
  rw [List.drop_append, List.drop_of_length_le (by omega), this, Nat.sub_self, List.drop_zero, List.nil_append]
theorem one_wks (ws : List Wk) : ∀ u ∈ wksCells ws, u.oneCell' = true := fun u hu => by
  simp only [wksCells, List.mem_flatMap] at hu
  obtain ⟨x, _, hx⟩ := hu
  exact one_wk x u hx
theorem own_form {w : World} {base : Nat} {e : TypeId} {size n : Nat} {v : Value} {xs : List Value} (h : w.ownsRow base e size v n xs) : ∃ A c, v = .slice A n c := by
  rcases h.2 with ⟨rfl, rfl⟩ | ⟨g, cap, _, rfl, _⟩
  · exact ⟨none, 0, rfl⟩
  · exact ⟨_, _, rfl⟩
/-- the cells of a row from its k-th on -/
theorem own_from {w : World} {base : Nat} {e : TypeId} {size n c g : Nat} {xs : List Value} (h : w.ownsRow base e size (.slice (some ⟨g, 0, none⟩) n c) n xs) (k : Nat) : ∀ j u, (xs.drop k)[j]? = some u → w.cell? ((⟨g, k, none⟩ : Addr).add j) = some u := fun j u hu => by
  rw [List.getElem?_drop] at hu
  obtain ⟨g', h1, _, _, h2⟩ := own_at h hu
  injection h1 with h1; injection h1 with h1
  subst h1
  rw [Addr.add_lit]; exact h2
theorem own_upto {w : World} {base : Nat} {e : TypeId} {size n c g : Nat} {xs : List Value} (h : w.ownsRow base e size (.slice (some ⟨g, 0, none⟩) n c) n xs) (k : Nat) : ∀ j u, (xs.take k)[j]? = some u → w.cell? ((⟨g, 0, none⟩ : Addr).add j) = some u := fun j u hu => by
  rw [List.getElem?_take] at hu
  split at hu
  · obtain ⟨g', h1, _, _, h2⟩ := own_at h hu
    injection h1 with h1; injection h1 with h1
    subst h1
    rw [Addr.add_lit, Nat.zero_add]; exact h2
  · cases hu
/-- an ending: a slice of ints in memory -/
def RetI (xs : List Int) (w : World) (e : Ending) (w' : World) : Prop := ∃ A n c, e = .returned (.slice A n c) ∧ RdI w' w'.heap.size A xs ∧ xs.length = n ∧ n ≤ c ∧ c ≤ 9223372036854775807 ∧ Below w.heap.size w w'
/-- an ending: a slice of ints in memory, and an error -/
def RetIE (xs : List Int) (err : Int) (w : World) (e : Ending) (w' : World) : Prop := ∃ A n c, e = .returned (.tuple #[.slice A n c, .int .i64 err]) ∧ RdI w' w'.heap.size A xs ∧ xs.length = n ∧ n ≤ c ∧ c ≤ 9223372036854775807 ∧ Below w.heap.size w w'
/-- an ending: a sheet in memory, and an error -/
def RetSE (p : Int) (ws : List Wk) (err : Int) (w : World) (e : Ending) (w' : World) : Prop := ∃ A n c, e = .returned (.tuple #[.agg #[.int .i64 p, .slice A n c], .int .i64 err]) ∧ RdW w' w'.heap.size A ws ∧ ws.length = n ∧ n ≤ c ∧ c ≤ 9223372036854775807 ∧ Below w.heap.size w w'
theorem own_caps {w : World} {base : Nat} {e : TypeId} {size n c : Nat} {A : Option Addr} {xs : List Value} (h : w.ownsRow base e size (.slice A n c) n xs) : n ≤ c ∧ c ≤ 9223372036854775807 := by
  rcases h.2 with ⟨hv, h0⟩ | ⟨g, cap, cur, hv, _, _, h1, h2, _⟩
  · injection hv with _ h2 h3; omega
  · injection hv with _ _ h3; subst h3; exact ⟨h1, by simpa only [maxLen] using h2⟩
theorem infoInt : (Try.prog.info? 3).map (fun i => (i.zero, i.size, i.bytes)) = some (some (.int .i64 0), 1, 8) := by kernel_rfl
end Go.Proofs.Ytmghpaibdgkbfaa
/-
  Contracts of chapter 6: bounds of numbers, points, lattices; steps, products, turns: the program's and the document's.
-/
namespace Go.Proofs.Ytmghpaibdgkbfaa
open Go.RowKit
abbrev vP (x y : Int) : Value := .agg #[.int .i64 x, .int .i64 y]
abbrev vL (a b c : Int) : Value := .agg #[.int .i64 a, .int .i64 b, .int .i64 c]
abbrev vM (a b c d : Int) : Value := .agg #[.int .i64 a, .int .i64 b, .int .i64 c, .int .i64 d]
theorem mb {a b : Int} (A B C : Int) (ha : -A ≤ a ∧ a ≤ A) (hb : -B ≤ b ∧ b ≤ B) (hC : A * B ≤ C) : -C ≤ a * b ∧ a * b ≤ C := by
  have hA : 0 ≤ A := by omega
  have hB : 0 ≤ B := by omega
  have h1 : (a.natAbs : Int) ≤ A := by omega
  have h2 : (b.natAbs : Int) ≤ B := by omega
  have h3 : ((a * b).natAbs : Int) ≤ A * B := by
    rw [Int.natAbs_mul, Int.natCast_mul]
    exact Int.mul_le_mul h1 h2 (by omega) hA
  omega
set_option maxHeartbeats 400000 in
theorem outC (n m : Int) (w : World) (hm : 0 ≤ m ∧ m ≤ 9000000) : Calls Try.prog 52 #[.int .i64 n, .int .i64 m] w fun e w' => e = .returned (.bool (decide (n < -m) || decide (m < n))) ∧ w = w' := by
  have i1 : IntKind.i64.wrap (-m) = -m := IntWalk.i64_in _ (by omega)
  by_cases h1 : n < -m
  · go_enter Try.func52, Try.ntmps52
    go_wp2
    go_ret
    exact ⟨by simp [h1], rfl⟩
  · rw [show (decide (n < -m) || decide (m < n)) = decide (m < n) by rw [decide_eq_false h1, Bool.false_or]]
    go_enter Try.func52, Try.ntmps52
    go_wp2
    go_ret
    exact ⟨rfl, rfl⟩
set_option maxHeartbeats 400000 in
theorem fromC (n lo hi : Int) (w : World) : Calls Try.prog 53 #[.int .i64 n, .int .i64 lo, .int .i64 hi] w fun e w' => e = .returned (.bool (decide (lo ≤ n) && decide (n ≤ hi))) ∧ w = w' := by
  by_cases h1 : lo ≤ n
  · go_enter Try.func53, Try.ntmps53
    go_wp2
    go_ret
    exact ⟨by simp [h1], rfl⟩
  · rw [show (decide (lo ≤ n) && decide (n ≤ hi)) = false by rw [decide_eq_false h1, Bool.false_and]]
    go_enter Try.func53, Try.ntmps53
    go_wp2
    go_ret
    exact ⟨rfl, rfl⟩
/-- a lattice is valid -/
def okL (a b c : Int) : Bool := decide (1 ≤ a) && (decide (1 ≤ c) && (decide (a ≤ 10000) && (decide (c ≤ 10000) && (decide (-10000 ≤ b) && (decide (b ≤ 10000) && decide (b * b < a * c))))))
theorem okL_iff (a b c : Int) : okL a b c = true ↔ 1 ≤ a ∧ 1 ≤ c ∧ a ≤ 10000 ∧ c ≤ 10000 ∧ -10000 ≤ b ∧ b ≤ 10000 ∧ b * b < a * c := by
  unfold okL; simp
def errL (a b c : Int) : Int := if okL a b c = true then 0 else 2
set_option maxRecDepth 100000 in
set_option maxHeartbeats 1000000 in
theorem checkC (a b c : Int) (w : World) : Calls Try.prog 17 #[vL a b c] w fun e w' => e = .returned (.int .i64 (errL a b c)) ∧ Below w.heap.size w w' := by
  have hO := Lib.hid (fun W => outC b 10000 W (by omega))
  by_cases h : okL a b c = true
  · obtain ⟨h1, h2, h3, h4, h5, h6, h7⟩ := (okL_iff a b c).1 h
    have i1 : IntKind.i64.wrap (a * c) = a * c := IntWalk.i64_in _ (by have := mb 10000 10000 100000000 (a := a) (b := c) (by omega) (by omega) (by decide); omega)
    have i2 : IntKind.i64.wrap (b * b) = b * b := IntWalk.i64_in _ (by have := mb 10000 10000 100000000 (a := b) (b := b) (by omega) (by omega) (by decide); omega)
    have e1 : ¬ a < 1 := by omega
    have e2 : ¬ c < 1 := by omega
    have e3 : ¬ 10000 < a := by omega
    have e4 : ¬ 10000 < c := by omega
    have e5 : ¬ b < -10000 := by omega
    have e6 : ¬ 10000 < b := by omega
    have e7 : ¬ a * c ≤ b * b := by omega
    have hE : errL a b c = 0 := if_pos h
    rw [hE]
    clear h hE h1 h2 h3 h4 h5 h6 h7
    go_enter Try.func17, Try.ntmps17
    go_wp2_with fail
    refine (hO.out _).mono ?_
    rintro e w1 ⟨rfl, rfl⟩
    go_wp2
    go_ret
    exact ⟨rfl, by go_grown⟩
  · have hE : errL a b c = 2 := if_neg h
    rw [hE]
    have hn : ¬ (1 ≤ a ∧ 1 ≤ c ∧ a ≤ 10000 ∧ c ≤ 10000 ∧ -10000 ≤ b ∧ b ≤ 10000 ∧ b * b < a * c) := fun q => h ((okL_iff a b c).2 q)
    clear hE h
    by_cases e1 : a < 1
    · go_enter Try.func17, Try.ntmps17
      go_wp2
      go_ret
      exact ⟨rfl, by go_grown⟩
    by_cases e2 : c < 1
    · go_enter Try.func17, Try.ntmps17
      go_wp2
      go_ret
      exact ⟨rfl, by go_grown⟩
    by_cases e3 : 10000 < a
    · go_enter Try.func17, Try.ntmps17
      go_wp2
      go_ret
      exact ⟨rfl, by go_grown⟩
    by_cases e4 : 10000 < c
    · go_enter Try.func17, Try.ntmps17
      go_wp2
      go_ret
      exact ⟨rfl, by go_grown⟩
    by_cases e5 : b < -10000
    · go_enter Try.func17, Try.ntmps17
      go_wp2_with fail
      refine (hO.out _).mono ?_
      rintro e w1 ⟨rfl, rfl⟩
      go_wp2
      go_ret
      exact ⟨rfl, by go_grown⟩
    by_cases e6 : 10000 < b
    · go_enter Try.func17, Try.ntmps17
      go_wp2_with fail
      refine (hO.out _).mono ?_
      rintro e w1 ⟨rfl, rfl⟩
      go_wp2
      go_ret
      exact ⟨rfl, by go_grown⟩
    have i1 : IntKind.i64.wrap (a * c) = a * c := IntWalk.i64_in _ (by have := mb 10000 10000 100000000 (a := a) (b := c) (by omega) (by omega) (by decide); omega)
    have i2 : IntKind.i64.wrap (b * b) = b * b := IntWalk.i64_in _ (by have := mb 10000 10000 100000000 (a := b) (b := b) (by omega) (by omega) (by decide); omega)
    have e7 : a * c ≤ b * b := by omega
    go_enter Try.func17, Try.ntmps17
    go_wp2_with fail
    refine (hO.out _).mono ?_
    rintro e w1 ⟨rfl, rfl⟩
    go_wp2
    go_ret
    exact ⟨rfl, by go_grown⟩
set_option maxRecDepth 100000 in
set_option maxHeartbeats 400000 in
theorem detC (a b c : Int) (w : World) (ha : -10000 ≤ a ∧ a ≤ 10000) (hb : -10000 ≤ b ∧ b ≤ 10000) (hc : -10000 ≤ c ∧ c ≤ 10000) : Calls Try.prog 54 #[vL a b c] w fun e w' => e = .returned (.int .i64 (a * c - b * b)) ∧ Below w.heap.size w w' := by
  have m1 := mb 10000 10000 100000000 ha hc (by decide)
  have m2 := mb 10000 10000 100000000 hb hb (by decide)
  have i1 : IntKind.i64.wrap (a * c) = a * c := IntWalk.i64_in _ (by omega)
  have i2 : IntKind.i64.wrap (b * b) = b * b := IntWalk.i64_in _ (by omega)
  have i3 : IntKind.i64.wrap (a * c - b * b) = a * c - b * b := IntWalk.i64_in _ (by omega)
  go_enter Try.func54, Try.ntmps54
  go_wp2
  go_ret
  exact ⟨rfl, by go_grown⟩
set_option maxRecDepth 100000 in
set_option maxHeartbeats 1000000 in
theorem rcheckC (a b c : Int) (w : World) : Calls Try.prog 18 #[vL a b c] w fun e w' => e = .returned (.int .i64 (errL a b c)) ∧ Below w.heap.size w w' := by
  by_cases c1 : 1 ≤ a ∧ a ≤ 10000
  case neg =>
    have hE : errL a b c = 2 := if_neg (fun h => by have := (okL_iff a b c).1 h; omega)
    have j1 : (decide (1 ≤ a) && decide (a ≤ 10000)) = false := by rw [← Bool.decide_and]; exact decide_eq_false c1
    have CF := Lib.hid (fun W => fromC a 1 10000 W)
    rw [hE]
    rw [j1] at CF
    clear hE j1
    go_enter Try.func18, Try.ntmps18
    go_wp2_with fail
    refine (CF.out _).mono ?_
    rintro e w1 ⟨rfl, rfl⟩
    go_wp2
    go_ret
    exact ⟨rfl, by go_grown⟩
  have j1 : (decide (1 ≤ a) && decide (a ≤ 10000)) = true := by rw [← Bool.decide_and]; exact decide_eq_true c1
  have C1 := Lib.hid (fun W => fromC a 1 10000 W)
  rw [j1] at C1
  by_cases c2 : 1 ≤ c ∧ c ≤ 10000
  case neg =>
    have hE : errL a b c = 2 := if_neg (fun h => by have := (okL_iff a b c).1 h; omega)
    have j1 : (decide (1 ≤ c) && decide (c ≤ 10000)) = false := by rw [← Bool.decide_and]; exact decide_eq_false c2
    have CF := Lib.hid (fun W => fromC c 1 10000 W)
    rw [hE]
    rw [j1] at CF
    clear hE j1
    go_enter Try.func18, Try.ntmps18
    go_wp2_with fail
    refine (C1.out _).mono ?_
    rintro e w1 ⟨rfl, rfl⟩
    go_wp2_with fail
    refine (CF.out _).mono ?_
    rintro e w1 ⟨rfl, rfl⟩
    go_wp2
    go_ret
    exact ⟨rfl, by go_grown⟩
  have j2 : (decide (1 ≤ c) && decide (c ≤ 10000)) = true := by rw [← Bool.decide_and]; exact decide_eq_true c2
  have C2 := Lib.hid (fun W => fromC c 1 10000 W)
  rw [j2] at C2
  by_cases c3 : -10000 ≤ b ∧ b ≤ 10000
  case neg =>
    have hE : errL a b c = 2 := if_neg (fun h => by have := (okL_iff a b c).1 h; omega)
    have j1 : (decide (-10000 ≤ b) && decide (b ≤ 10000)) = false := by rw [← Bool.decide_and]; exact decide_eq_false c3
    have CF := Lib.hid (fun W => fromC b (-10000) 10000 W)
    rw [hE]
    rw [j1] at CF
    clear hE j1
    go_enter Try.func18, Try.ntmps18
    go_wp2_with fail
    refine (C1.out _).mono ?_
    rintro e w1 ⟨rfl, rfl⟩
    go_wp2_with fail
    refine (C2.out _).mono ?_
    rintro e w1 ⟨rfl, rfl⟩
    go_wp2_with fail
    refine (CF.out _).mono ?_
    rintro e w1 ⟨rfl, rfl⟩
    go_wp2
    go_ret
    exact ⟨rfl, by go_grown⟩
  have j3 : (decide (-10000 ≤ b) && decide (b ≤ 10000)) = true := by rw [← Bool.decide_and]; exact decide_eq_true c3
  have C3 := Lib.hid (fun W => fromC b (-10000) 10000 W)
  rw [j3] at C3
  have CD := Lib.hid (fun W => detC a b c W (by omega) c3 (by omega))
  obtain ⟨er, her⟩ : ∃ er, er = errL a b c := ⟨_, rfl⟩
  have hE : (a * c - b * b < 1 → er = 2) ∧ (¬ a * c - b * b < 1 → er = 0) := by
    rw [her]
    exact ⟨fun h => if_neg (fun q => by have := (okL_iff a b c).1 q; omega), fun h => if_pos ((okL_iff a b c).2 (by omega))⟩
  rw [← her]
  clear her j1 j2 j3
  generalize a * c - b * b = D at *
  by_cases c4 : D < 1
  · obtain rfl := hE.1 c4
    clear hE
    go_enter Try.func18, Try.ntmps18
    go_wp2_with fail
    refine (C1.out _).mono ?_
    rintro e w1 ⟨rfl, rfl⟩
    go_wp2_with fail
    refine (C2.out _).mono ?_
    rintro e w1 ⟨rfl, rfl⟩
    go_wp2_with fail
    refine (C3.out _).mono ?_
    rintro e w1 ⟨rfl, rfl⟩
    go_wp2_with fail
    refine (CD.out _).mono ?_
    rintro e w1 ⟨rfl, hb1⟩
    go_wp2
    go_ret
    exact ⟨rfl, bvia (by go_grown) hb1⟩
  · obtain rfl := hE.2 c4
    clear hE
    go_enter Try.func18, Try.ntmps18
    go_wp2_with fail
    refine (C1.out _).mono ?_
    rintro e w1 ⟨rfl, rfl⟩
    go_wp2_with fail
    refine (C2.out _).mono ?_
    rintro e w1 ⟨rfl, rfl⟩
    go_wp2_with fail
    refine (C3.out _).mono ?_
    rintro e w1 ⟨rfl, rfl⟩
    go_wp2_with fail
    refine (CD.out _).mono ?_
    rintro e w1 ⟨rfl, hb1⟩
    go_wp2
    go_ret
    exact ⟨rfl, bvia (by go_grown) hb1⟩
end Go.Proofs.Ytmghpaibdgkbfaa
