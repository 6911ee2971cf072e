/-
  Words on memory that all proofs of this seat share: a slice of works, of ints, of bools read as a list. Plain definitions and lemmas; nothing here is a claim.
-/
import Derived.Test.YtnjenggijmbhcaaRows
import Derived.WalkKit
import Derived.ProofKit
import Derived.BigGuardPart
import Derived.BigQuiet
import Derived.Deep.QuietTactic
import Derived.Deep.RegionHeld3
import Derived.Deep.LoopGhost
import Derived.Lib.Hide
import Derived.Outline
import Derived.Handy
import Derived.Laws.ResultCell
namespace Go.Proofs.Ytnjenggijmbhcaa
open Go.RowKit

theorem ret_int {k : IntKind} {a b : Int} (h : a = b) : Ending.returned (.int k a) = .returned (.int k b) := by rw [h]
theorem ret_bool {a b : Bool} (h : a = b) : Ending.returned (.bool a) = .returned (.bool b) := by rw [h]
theorem ret_str {a b : ByteArray} (h : a = b) : Ending.returned (.string a) = .returned (.string b) := by rw [h]

/-- a work: kind, place, word -/
structure Wk where
  kind : Int
  at_ : Int
  word : ByteArray
deriving DecidableEq

/-- The slice address A reads, in world w and below block B, as these works. -/
def RdW (w : World) (B : Nat) (A : Option Addr) (ws : List Wk) : Prop :=
  ∀ (k : Nat) (x : Wk), ws[k]? = some x → ∃ b o, A = some ⟨b, o, none⟩ ∧ b < B ∧
    w.cell? ⟨b, o + k*3, none⟩ = some (.int .i64 x.kind) ∧ w.cell? ⟨b, o + k*3+1, none⟩ = some (.int .i64 x.at_) ∧ w.cell? ⟨b, o+k*3+2, none⟩ = some (.string x.word)

theorem RdW.below {w w' : World} {B B' : Nat} {A : Option Addr} {ws : List Wk} (h : RdW w B A ws) (hb : Below B w w') (hB : B ≤ B') : RdW w' B' A ws := fun k x hx => by
  obtain ⟨b, o, h1, h2, h3, h4, h5⟩ := h k x hx
  exact ⟨b, o, h1, Nat.lt_of_lt_of_le h2 hB, (hb.cell h2).trans h3, (hb.cell h2).trans h4, (hb.cell h2).trans h5⟩

theorem rdW_one (w : World) (k a : Int) (s : ByteArray) (t : TypeId) : RdW (w.alloc (.cells #[.int .i64 k, .int .i64 a, .string s] t)) (w.alloc (.cells #[.int .i64 k, .int .i64 a, .string s] t)).heap.size (some ⟨w.heap.size, 0, none⟩) [⟨k, a, s⟩] := fun j x hx => by
  match j, hx with
  | 0, hx =>
    simp at hx; subst hx
    exact ⟨w.heap.size, 0, rfl, by simp, by go_simp, by go_simp, by go_simp⟩
  | j + 1, hx => simp at hx
theorem rdW_cells {w : World} {b : Nat} {k a : Int} {s : ByteArray} (hb : b < w.heap.size) (h0 : w.cell? ⟨b, 0, none⟩ = some (.int .i64 k)) (h1 : w.cell? ⟨b, 1, none⟩ = some (.int .i64 a)) (h2 : w.cell? ⟨b, 2, none⟩ = some (.string s)) :
    RdW w w.heap.size (some ⟨b, 0, none⟩) [⟨k, a, s⟩] := fun j x hx => by
  match j, hx with
  | 0, hx =>
    simp at hx; subst hx
    exact ⟨b, 0, rfl, hb, h0, h1, h2⟩
  | j + 1, hx => simp at hx
theorem RdW.nil (w : World) (B : Nat) (A : Option Addr) : RdW w B A [] := fun k x hx => by simp at hx

/-- what is below old memory's end is kept by everything that the call does -/
theorem RdW.up {w w' : World} {A : Option Addr} {ws : List Wk} (h : RdW w w.heap.size A ws) (hb : Below w.heap.size w w') : RdW w' w'.heap.size A ws := h.below hb hb.size

/-- one-cell elements -/
def Rd1 {α : Type} (f : α → Value) (w : World) (B : Nat) (A : Option Addr) (xs : List α) : Prop :=
  ∀ (k : Nat) (x : α), xs[k]? = some x → ∃ b o, A = some ⟨b, o, none⟩ ∧ b < B ∧ w.cell? ⟨b, o + k, none⟩ = some (f x)

theorem Rd1.below {α : Type} {f : α → Value} {w w' : World} {B B' : Nat} {A : Option Addr} {xs : List α} (h : Rd1 f w B A xs) (hb : Below B w w') (hB : B ≤ B') : Rd1 f w' B' A xs := fun k x hx => by
  obtain ⟨b, o, h1, h2, h3⟩ := h k x hx
  exact ⟨b, o, h1, Nat.lt_of_lt_of_le h2 hB, (hb.cell h2).trans h3⟩
theorem Rd1.nil {α : Type} (f : α → Value) (w : World) (B : Nat) (A : Option Addr) : Rd1 f w B A [] := fun k x hx => by simp at hx
theorem Rd1.up {α : Type} {f : α → Value} {w w' : World} {A : Option Addr} {xs : List α} (h : Rd1 f w w.heap.size A xs) (hb : Below w.heap.size w w') : Rd1 f w' w'.heap.size A xs := h.below hb hb.size

abbrev vInt (n : Int) : Value := .int .i64 n
abbrev vBool (b : Bool) : Value := .bool b
abbrev RdI (w : World) (B : Nat) (A : Option Addr) (xs : List Int) : Prop := Rd1 vInt w B A xs
abbrev RdB (w : World) (B : Nat) (A : Option Addr) (xs : List Bool) : Prop := Rd1 vBool w B A xs

theorem get_of_lt {α : Type} {l : List α} {k : Nat} (h : k < l.length) : ∃ x, l[k]? = some x := ⟨l[k], List.getElem?_eq_getElem h⟩
theorem mem_of_get {α : Type} {l : List α} {k : Nat} {x : α} (h : l[k]? = some x) : x ∈ l := List.mem_of_getElem? h
theorem lt_of_get {α : Type} {l : List α} {k : Nat} {x : α} (h : l[k]? = some x) : k < l.length := by
  rcases Nat.lt_or_ge k l.length with h' | h'
  · exact h'
  · rw [List.getElem?_eq_none h'] at h; cases h

theorem below_drewN {B : Nat} {a w : World} (h : Below B a w) (n : Nat) : Below B a (w.drewN n) := ⟨h.os, h.tape, h.output, h.size, h.block⟩
theorem bcell {W w1 : World} (hb : Below W.heap.size W w1) : (∀ b o, b < W.heap.size → w1.cell? ⟨b, o, none⟩ = W.cell? ⟨b, o, none⟩) ∧ (∀ b o, b < W.heap.size → w1.frozen? ⟨b, o, none⟩ = W.frozen? ⟨b, o, none⟩) :=
  ⟨fun b o h => hb.cell (p := ⟨b, o, none⟩) h, fun b o h => hb.frozen (p := ⟨b, o, none⟩) h⟩
theorem bvia {a b c : World} (h1 : Below a.heap.size a b) (h2 : Below b.heap.size b c) : Below a.heap.size a c := h1.trans (h2.mono h1.size)
theorem bvia' {B : Nat} {a b c : World} (h1 : Below B a b) (hB : B ≤ a.heap.size) (h2 : Below b.heap.size b c) : Below B a c := h1.trans (h2.mono (Nat.le_trans hB h1.size))
theorem eq_of_get {α : Type} {xs ys : List α} (hl : xs.length = ys.length) (h : ∀ (j : Nat) (x : α), xs[j]? = some x → ys[j]? = some x) : xs = ys := by
  apply List.ext_getElem? 
  intro j
  cases hx : xs[j]? with
  | some x => exact (h j x hx).symm
  | none =>
    have : xs.length ≤ j := by simpa using hx
    exact (List.getElem?_eq_none (by omega)).symm
theorem pw_step {α : Type} {xs ys : List α} {k : Nat} {x y : α} (H : ∀ (j : Nat) (x : α), j < k → xs[j]? = some x → ys[j]? = some x) (hx : xs[k]? = some x) (hy : ys[k]? = some y) (he : x = y) :
    ∀ (j : Nat) (x : α), j < k + 1 → xs[j]? = some x → ys[j]? = some x := fun j z hj hz => by
  rcases Nat.lt_or_ge j k with h | h
  · exact H j z h hz
  · obtain rfl : j = k := by omega
    rw [hx] at hz
    obtain rfl := Option.some.inj hz
    rw [hy, he]
theorem beq_true {α : Type} [BEq α] [LawfulBEq α] {a b : α} (h : a = b) : true = (a == b) := by simpa using h
theorem beq_false {α : Type} [BEq α] [LawfulBEq α] {a b : α} (h : a ≠ b) : false = (a == b) := by simpa using h
theorem ne_of_get {α : Type} {xs ys : List α} {j : Nat} {x y : α} (hx : xs[j]? = some x) (hy : ys[j]? = some y) (h : x ≠ y) : xs ≠ ys := by
  rintro rfl
  rw [hx] at hy
  exact h (Option.some.inj hy)
theorem ne_of_len {α : Type} {xs ys : List α} {n m : Nat} (hx : xs.length = n) (hy : ys.length = m) (h : ¬ n = m) : xs ≠ ys := by
  rintro rfl
  omega

/-! ### words and sheets: what the document says of them -/
def letters : List UInt8 := [67, 84, 76, 82, 80, 99, 116, 108, 114]
def isLet (c : UInt8) : Bool := letters.contains c
def wOk (s : ByteArray) : Bool := s.data.toList.all isLet
/-- the error of a word -/
def wchk (s : ByteArray) : Int := if 16 < s.size then 3 else if wOk s then 0 else 6
def wkBad (p : Int) (x : Wk) : Bool := (x.kind != 1 && x.kind != 2) || decide (x.at_ < 0) || decide (p - 2 < x.at_) || (x.kind == 2 && x.word.size != 0)
/-- the error of a sheet -/
def schk (p : Int) (ws : List Wk) : Int :=
  if 24 < p ∨ 400 < ws.length ∨ ws.any (fun x => decide (16 < x.word.size)) = true then 3 else if p < 2 ∨ ws.any (wkBad p) = true then 2 else if ws.all (fun x => wOk x.word) then 0 else 6

theorem idx_split {l : List UInt8} {c : UInt8} {k : Nat} (hk : l[k]? = some c) (hno : ∀ j, j < k → l[j]? ≠ some c) : l.idxOf? c = some k := by
  induction l generalizing k with
  | nil => simp at hk
  | cons x l ih =>
    cases k with
    | zero => simp at hk; subst hk; simp [List.idxOf?, List.findIdx?_cons]
    | succ k =>
      have h0 := hno 0 (by omega)
      simp at h0 hk
      have := ih hk (fun j hj => by have := hno (j+1) (by omega); simpa using this)
      simp only [List.idxOf?] at this ⊢
      rw [List.findIdx?_cons]
      have hx : (x == c) = false := by simpa using h0
      simp [hx, this]
theorem idx_none {l : List UInt8} {c : UInt8} (hno : ∀ j, j < l.length → l[j]? ≠ some c) : l.idxOf? c = none := by
  simp only [List.idxOf?, List.findIdx?_eq_none_iff]
  intro x hx
  obtain ⟨j, hj, rfl⟩ := List.mem_iff_getElem.1 hx
  have := hno j hj
  rw [List.getElem?_eq_getElem hj] at this
  simpa using this
def idxOf (l : List UInt8) (c : UInt8) : Int := match l.idxOf? c with | some k => k | none => -1
theorem idxOf_some {l : List UInt8} {c : UInt8} {k : Nat} (h : l.idxOf? c = some k) : idxOf l c = k := by unfold idxOf; rw [h]
theorem idxOf_none {l : List UInt8} {c : UInt8} (h : l.idxOf? c = none) : idxOf l c = -1 := by unfold idxOf; rw [h]

theorem byte_eq {a b : UInt8} (h : ((a.toNat : Int) == (b.toNat : Int)) = true) : a = b := by
  have : (a.toNat : Int) = b.toNat := by simpa using h
  exact UInt8.toNat_inj.1 (by omega)
theorem byte_ne {a b : UInt8} (h : ((a.toNat : Int) == (b.toNat : Int)) = false) : a ≠ b := by
  rintro rfl; simp at h
theorem str_get (s : ByteArray) (k : Nat) (h : k < s.size) : s.data.toList[k]? = some s[k] := by
  rw [List.getElem?_eq_getElem (by simpa using h)]; rfl
theorem str_len (s : ByteArray) : s.data.toList.length = s.size := by rw [Array.length_toList]; rfl
/-- two works have a place in common -/
def touch (a b : Int) : Bool := decide (a - b ≤ 1) && decide (b - a ≤ 1)
/-! ### letters -/
theorem isLet_iff (c : UInt8) : isLet c = true ↔ 0 ≤ idxOf letters c := by
  unfold isLet idxOf
  cases h : letters.idxOf? c with
  | none =>
    have : c ∉ letters := by
      simp only [List.idxOf?, List.findIdx?_eq_none_iff] at h
      intro hm
      have := h c hm
      simp at this
    simp [this]
  | some k =>
    have : c ∈ letters := by
      rcases Classical.em (c ∈ letters) with hm | hm
      · exact hm
      · have : letters.idxOf? c = none := by
          simp only [List.idxOf?, List.findIdx?_eq_none_iff]
          intro x hx
          have : x ≠ c := fun e => hm (e ▸ hx)
          simpa using this
        rw [this] at h; cases h
    simp [this]
theorem idx_lt9 (c : UInt8) : idxOf letters c ≤ 8 := by
  unfold idxOf
  cases h : letters.idxOf? c with
  | none => simp
  | some k =>
    have h2 : k < letters.length := by
      simp only [List.idxOf?] at h
      rw [List.findIdx?_eq_some_iff_getElem] at h
      exact h.1
    have h3 : letters.length = 9 := rfl
    show (k : Int) ≤ 8
    omega
theorem idx_ge (c : UInt8) : -1 ≤ idxOf letters c := by
  unfold idxOf
  cases letters.idxOf? c <;> simp
theorem idx_no {c : UInt8} (h : idxOf letters c < 0) : isLet c = false := by
  cases hc : isLet c with
  | false => rfl
  | true => have := (isLet_iff c).1 hc; omega
theorem wOk_of {s : ByteArray} (h : ∀ j, ∀ hj : j < s.size, isLet s[j] = true) : wOk s = true := by
  unfold wOk
  rw [List.all_eq_true]
  intro c hc
  obtain ⟨j, hj, rfl⟩ := List.mem_iff_getElem.1 hc
  rw [str_len] at hj
  exact h j hj
theorem wOk_not {s : ByteArray} {j : Nat} (hj : j < s.size) (h : isLet s[j] = false) : wOk s = false := by
  unfold wOk
  rw [List.all_eq_false]
  exact ⟨s[j], mem_of_get (str_get s j hj), by simp [h]⟩
theorem wOk_get {s : ByteArray} (h : wOk s = true) (j : Nat) (hj : j < s.size) : isLet s[j] = true := by
  unfold wOk at h
  rw [List.all_eq_true] at h
  exact h _ (mem_of_get (str_get s j hj))
theorem wchk_long {s : ByteArray} (h : 16 < s.size) : wchk s = 3 := by unfold wchk; rw [if_pos h]
theorem wchk_ok {s : ByteArray} (h : s.size ≤ 16) (ho : wOk s = true) : wchk s = 0 := by unfold wchk; rw [if_neg (by omega), if_pos ho]
theorem wchk_bad {s : ByteArray} (h : s.size ≤ 16) (ho : wOk s = false) : wchk s = 6 := by unfold wchk; rw [if_neg (by omega), ho]; rfl
theorem wchk_zero {s : ByteArray} (h : wchk s = 0) : s.size ≤ 16 ∧ wOk s = true := by
  unfold wchk at h
  split at h
  · omega
  · split at h
    · exact ⟨by omega, by assumption⟩
    · omega
/-! ### words with other letters -/
/-- a letter's image in a list of nine -/
def img (by_ : List UInt8) (c : UInt8) : UInt8 := by_.getD (idxOf letters c).toNat 0
def chgTo (by_ : List UInt8) (s : ByteArray) (k : Nat) : List UInt8 := (s.data.toList.take k).map (img by_)
def chg (by_ : List UInt8) (s : ByteArray) : ByteArray := ⟨((s.data.toList).map (img by_)).toArray⟩
theorem chgTo_zero (by_ : List UInt8) (s : ByteArray) : chgTo by_ s 0 = [] := rfl
theorem chgTo_succ (by_ : List UInt8) (s : ByteArray) (k : Nat) (h : k < s.size) : chgTo by_ s (k + 1) = chgTo by_ s k ++ [img by_ s[k]] := by
  unfold chgTo
  rw [List.take_add_one, str_get s k h]
  simp
theorem chgTo_len (by_ : List UInt8) (s : ByteArray) (k : Nat) : (chgTo by_ s k).length ≤ k := by unfold chgTo; simp; omega
theorem chgTo_all (by_ : List UInt8) (s : ByteArray) (k : Nat) (h : s.size ≤ k) : chgTo by_ s k = s.data.toList.map (img by_) := by
  unfold chgTo; rw [List.take_of_length_le (by rw [str_len]; exact h)]
theorem ba_ext {a b : ByteArray} (h : a.data.toList = b.data.toList) : a = b := by
  cases a with | mk a => cases b with | mk b =>
    simp only [ByteArray.mk.injEq]
    exact Array.toList_inj.1 h
theorem ext_one (t : ByteArray) (m : Nat) (h : m < t.size) : (t.extract m (m + 1)).data.toList = [t[m]] := by
  rw [ByteArray.data_extract, Array.toList_extract]
  have h2 : t.data.toList[m]? = some t[m] := str_get t m h
  simp only [List.extract, Nat.add_sub_cancel_left]
  apply List.ext_getElem?
  intro j
  rw [List.getElem?_take]
  split
  · obtain rfl : j = 0 := by omega
    rw [List.getElem?_drop]; simpa using h2
  · rw [List.getElem?_eq_none]; simp; omega
theorem app_one (l : List UInt8) (t : ByteArray) (m : Nat) (h : m < t.size) : (⟨l.toArray⟩ : ByteArray) ++ t.extract m (m + 1) = ⟨(l ++ [t[m]]).toArray⟩ := by
  apply ba_ext
  rw [ByteArray.data_append, Array.toList_append, ext_one t m h]
theorem one_app (l : List UInt8) (t : ByteArray) (m : Nat) (h : m < t.size) : t.extract m (m + 1) ++ (⟨l.toArray⟩ : ByteArray) = ⟨(t[m] :: l).toArray⟩ := by
  apply ba_ext
  rw [ByteArray.data_append, Array.toList_append, ext_one t m h]
  rfl
theorem img_at {t : ByteArray} {c : UInt8} {m : Nat} (hm : idxOf letters c = m) (h : m < t.size) : img t.data.toList c = t[m] := by
  unfold img
  rw [hm, Int.toNat_natCast, List.getD_eq_getElem?_getD, str_get t m h]
  rfl
/-! ### sheets -/
theorem schk_long {p : Int} {ws : List Wk} (h : 24 < p ∨ 400 < ws.length ∨ ∃ (k : Nat) (x : Wk), ws[k]? = some x ∧ 16 < x.word.size) : schk p ws = 3 := by
  unfold schk
  rw [if_pos]
  rcases h with h | h | ⟨k, x, hk, hx⟩
  · exact .inl h
  · exact .inr (.inl h)
  · exact .inr (.inr (List.any_eq_true.2 ⟨x, mem_of_get hk, by simpa using hx⟩))
theorem schk_arg {p : Int} {ws : List Wk} (h1 : p ≤ 24) (h2 : ws.length ≤ 400) (h3 : ∀ (k : Nat) (x : Wk), ws[k]? = some x → x.word.size ≤ 16) (h : p < 2 ∨ ∃ (k : Nat) (x : Wk), ws[k]? = some x ∧ wkBad p x = true) : schk p ws = 2 := by
  unfold schk
  rw [if_neg, if_pos]
  · rcases h with h | ⟨k, x, hk, hx⟩
    · exact .inl h
    · exact .inr (List.any_eq_true.2 ⟨x, mem_of_get hk, hx⟩)
  · rintro (h | h | h)
    · omega
    · omega
    · obtain ⟨x, hx, h⟩ := List.any_eq_true.1 h
      obtain ⟨k, hk, rfl⟩ := List.mem_iff_getElem.1 hx
      have := h3 k _ (List.getElem?_eq_getElem hk)
      simp at h; omega
theorem schk_form {p : Int} {ws : List Wk} (h1 : p ≤ 24) (h2 : ws.length ≤ 400) (h3 : ∀ (k : Nat) (x : Wk), ws[k]? = some x → x.word.size ≤ 16) (h4 : 2 ≤ p) (h5 : ∀ (k : Nat) (x : Wk), ws[k]? = some x → wkBad p x = false) :
    schk p ws = if ws.all (fun x => wOk x.word) then 0 else 6 := by
  unfold schk
  rw [if_neg, if_neg]
  · rintro (h | h)
    · omega
    · obtain ⟨x, hx, h⟩ := List.any_eq_true.1 h
      obtain ⟨k, hk, rfl⟩ := List.mem_iff_getElem.1 hx
      rw [h5 k _ (List.getElem?_eq_getElem hk)] at h; cases h
  · rintro (h | h | h)
    · omega
    · omega
    · obtain ⟨x, hx, h⟩ := List.any_eq_true.1 h
      obtain ⟨k, hk, rfl⟩ := List.mem_iff_getElem.1 hx
      have := h3 k _ (List.getElem?_eq_getElem hk)
      simp at h; omega
theorem schk_bad {p : Int} {ws : List Wk} (h1 : p ≤ 24) (h2 : ws.length ≤ 400) (h3 : ∀ (k : Nat) (x : Wk), ws[k]? = some x → x.word.size ≤ 16) (h4 : 2 ≤ p) (h5 : ∀ (k : Nat) (x : Wk), ws[k]? = some x → wkBad p x = false)
    (h : ∃ (k : Nat) (x : Wk), ws[k]? = some x ∧ wOk x.word = false) : schk p ws = 6 := by
  rw [schk_form h1 h2 h3 h4 h5, if_neg]
  obtain ⟨k, x, hk, hx⟩ := h
  intro ha
  rw [List.all_eq_true] at ha
  rw [ha x (mem_of_get hk)] at hx
  cases hx
theorem schk_ok {p : Int} {ws : List Wk} (h1 : p ≤ 24) (h2 : ws.length ≤ 400) (h3 : ∀ (k : Nat) (x : Wk), ws[k]? = some x → x.word.size ≤ 16) (h4 : 2 ≤ p) (h5 : ∀ (k : Nat) (x : Wk), ws[k]? = some x → wkBad p x = false)
    (h : ∀ (k : Nat) (x : Wk), ws[k]? = some x → wOk x.word = true) : schk p ws = 0 := by
  rw [schk_form h1 h2 h3 h4 h5, if_pos]
  rw [List.all_eq_true]
  intro x hx
  obtain ⟨k, hk, rfl⟩ := List.mem_iff_getElem.1 hx
  exact h k _ (List.getElem?_eq_getElem hk)
/-- a valid sheet -/
structure SOk (p : Int) (ws : List Wk) : Prop where
  le : p ≤ 24
  ge : 2 ≤ p
  len : ws.length ≤ 400
  short : ∀ x ∈ ws, x.word.size ≤ 16
  good : ∀ x ∈ ws, wkBad p x = false
  form : ∀ x ∈ ws, wOk x.word = true
theorem schk_zero {p : Int} {ws : List Wk} (h : schk p ws = 0) : SOk p ws := by
  unfold schk at h
  split at h
  · omega
  rename_i h1
  split at h
  · omega
  rename_i h2
  split at h
  · rename_i h3
    rw [List.all_eq_true] at h3
    refine ⟨by omega, by omega, by omega, fun x hx => ?_, fun x hx => ?_, h3⟩
    · rcases Nat.lt_or_ge 16 x.word.size with hh | hh
      · exact absurd (.inr (.inr (List.any_eq_true.2 ⟨x, hx, by simpa using hh⟩))) h1
      · exact hh
    · cases hb : wkBad p x with
      | false => rfl
      | true => exact absurd (.inr (List.any_eq_true.2 ⟨x, hx, hb⟩)) h2
  · omega
theorem schk_of {p : Int} {ws : List Wk} (h : SOk p ws) : schk p ws = 0 :=
  schk_ok h.le h.len (fun _ _ hk => h.short _ (mem_of_get hk)) h.ge (fun _ _ hk => h.good _ (mem_of_get hk)) (fun _ _ hk => h.form _ (mem_of_get hk))
theorem schk_iff {p : Int} {ws : List Wk} : schk p ws = 0 ↔ SOk p ws := ⟨schk_zero, schk_of⟩
theorem bad_at {p : Int} {x : Wk} (h : wkBad p x = false) : (x.kind = 1 ∨ x.kind = 2) ∧ 0 ≤ x.at_ ∧ x.at_ ≤ p - 2 ∧ (x.kind = 2 → x.word.size = 0) := by
  unfold wkBad at h
  simp only [Bool.or_eq_false_iff, Bool.and_eq_false_iff, decide_eq_false_iff_not, bne_eq_false_iff_eq, beq_eq_false_iff_ne] at h
  obtain ⟨⟨⟨h1, h2⟩, h3⟩, h4⟩ := h
  exact ⟨h1, by omega, by omega, fun h => by
    rcases h4 with h4 | h4
    · exact absurd h h4
    · exact h4⟩
theorem empty_iff {s : ByteArray} : s.toList.isEmpty = (s.size == 0) := by
  rw [ByteArray.toList_eq]
  have := str_len s
  cases h : s.data.toList with
  | nil => rw [h] at this; simp at this; simp [← this]
  | cons a l => rw [h] at this; simp at this; simp [← this]
theorem wkBad_of {p : Int} {x : Wk} (h : (¬ x.kind = 1 ∧ ¬ x.kind = 2) ∨ x.at_ < 0 ∨ p - 2 < x.at_ ∨ (x.kind = 2 ∧ (!x.word.toList.isEmpty) = true)) : wkBad p x = true := by
  unfold wkBad
  rw [empty_iff] at h
  simp only [Bool.or_eq_true, Bool.and_eq_true, bne_iff_ne, beq_iff_eq, decide_eq_true_eq, ne_eq]
  rcases h with h | h | h | ⟨h, h'⟩
  · exact .inl (.inl (.inl h))
  · exact .inl (.inl (.inr h))
  · exact .inl (.inr h)
  · exact .inr ⟨h, by simpa using h'⟩
theorem wkGood_of {p : Int} {x : Wk} (h1 : x.kind = 1 ∨ (x.kind = 2 ∧ (!x.word.toList.isEmpty) = false)) (h2 : ¬ x.at_ < 0) (h3 : ¬ p - 2 < x.at_) : wkBad p x = false := by
  unfold wkBad
  rw [empty_iff] at h1
  simp only [Bool.or_eq_false_iff, Bool.and_eq_false_iff, decide_eq_false_iff_not, bne_eq_false_iff_eq, beq_eq_false_iff_ne, ne_eq]
  refine ⟨⟨⟨?_, h2⟩, h3⟩, ?_⟩
  · rcases h1 with h | ⟨h, _⟩
    · exact .inl h
    · exact .inr h
  · rcases h1 with h | ⟨_, h⟩
    · left; omega
    · right; simpa using h
theorem get_step {α : Type} {ws : List α} {Q : α → Prop} {k : Nat} {x : α} (H : ∀ (j : Nat) (y : α), j < k → ws[j]? = some y → Q y) (hx : ws[k]? = some x) (hq : Q x) : ∀ (j : Nat) (y : α), j < k + 1 → ws[j]? = some y → Q y := fun j y hj hy => by
  rcases Nat.lt_or_ge j k with h | h
  · exact H j y h hy
  · obtain rfl : j = k := by omega
    rw [hx] at hy
    obtain rfl := Option.some.inj hy
    exact hq
theorem get_all {α : Type} {ws : List α} {Q : α → Prop} {k : Nat} (H : ∀ (j : Nat) (y : α), j < k → ws[j]? = some y → Q y) (hk : ws.length ≤ k) : ∀ (j : Nat) (y : α), ws[j]? = some y → Q y := fun j y hy => H j y (by have := lt_of_get hy; omega) hy
end Go.Proofs.Ytnjenggijmbhcaa
/-
  Contracts of the functions of torchonref03 (words of moves) that look at letters.
-/
namespace Go.Proofs.Ytnjenggijmbhcaa
open Go.RowKit
set_option maxHeartbeats 400000 in
theorem index03 (s : ByteArray) (c : UInt8) (w : World) (hs : s.size ≤ 1000) :
    Calls Try.prog 66 #[.string s, .int .u8 c.toNat] w fun e w' => e = .returned (.int .i64 (idxOf s.data.toList c)) ∧ w = w' := by
  go_enter Try.func66, Try.ntmps66
  go_wp2
  go_loop [5] (fun i => ∃ k : Nat, k ≤ s.size ∧ i = .int .i64 k ∧ ∀ j, j < k → s.data.toList[j]? ≠ some c) (fun i => s.size - (intOf i).toNat)
  case atStart => exact ⟨0, Nat.zero_le _, rfl, fun j hj => absurd hj (by omega)⟩
  case round =>
    obtain ⟨k, hk, rfl, hno⟩ := hrel
    have H := Lib.hid hno; clear hno
    by_cases hlt : k < s.size
    · go_wp2
      · go_ret
        exact ⟨ret_int (idxOf_some (idx_split ((str_get s k hlt).trans (congrArg some (byte_eq (by assumption)))) H.out)).symm, rfl⟩
      · go_round
        case rel => exact ⟨k + 1, by omega, by go_num, fun j hj => by
          rcases Nat.lt_or_ge j k with h | h
          · exact H.out j h
          · obtain rfl : j = k := by omega
            rw [str_get s j hlt]
            intro he
            exact byte_ne (by assumption) (Option.some.inj he)⟩
        case measure => simp [intOf]; omega
    · go_wp2
      go_ret
      exact ⟨ret_int (idxOf_none (idx_none fun j hj => H.out j (by rw [str_len] at hj; omega))).symm, rfl⟩

theorem index03_let (c : UInt8) (w : World) :
    Calls Try.prog 66 #[.string ⟨#[67, 84, 76, 82, 80, 99, 116, 108, 114]⟩, .int .u8 c.toNat] w fun e w' => e = .returned (.int .i64 (idxOf letters c)) ∧ w = w' :=
  index03 ⟨#[67, 84, 76, 82, 80, 99, 116, 108, 114]⟩ c w (by decide)

set_option maxHeartbeats 400000 in
theorem check03 (s : ByteArray) (w : World) (hs : s.size ≤ 9223372036854775807) :
    Calls Try.prog 43 #[.string s] w fun e w' => e = .returned (.int .i64 (wchk s)) ∧ w = w' := by
  by_cases hl : 16 < s.size
  · go_enter Try.func43, Try.ntmps43
    go_wp2
    go_ret
    exact ⟨ret_int (wchk_long hl).symm, rfl⟩
  have hl' : s.size ≤ 16 := by omega
  go_enter Try.func43, Try.ntmps43
  go_wp2
  go_loop [3] (fun i => ∃ k : Nat, k ≤ s.size ∧ i = .int .i64 k ∧ ∀ j, ∀ hj : j < s.size, j < k → isLet s[j] = true) (fun i => s.size - (intOf i).toNat)
  case atStart => exact ⟨0, Nat.zero_le _, rfl, fun j _ hj => absurd hj (by omega)⟩
  case round =>
    obtain ⟨k, hk, rfl, hno⟩ := hrel
    have H := Lib.hid hno; clear hno
    by_cases hlt : k < s.size
    · by_cases hc : 0 ≤ idxOf letters s[k]
      · go_wp2_with (go_at_call 66; refine (index03_let _ _).mono ?_; rintro e w' ⟨rfl, rfl⟩)
        go_round
        case rel => exact ⟨k + 1, by omega, by go_num, fun j hs' hj => by
          rcases Nat.lt_or_ge j k with h | h
          · exact H.out j hs' h
          · obtain rfl : j = k := by omega
            exact (isLet_iff _).2 hc⟩
        case measure => simp [intOf]; omega
      · have hc' : idxOf letters s[k] < 0 := by omega
        go_wp2_with (go_at_call 66; refine (index03_let _ _).mono ?_; rintro e w' ⟨rfl, rfl⟩)
        go_ret
        exact ⟨ret_int (wchk_bad hl' (wOk_not hlt (idx_no hc'))).symm, rfl⟩
    · go_wp2
      go_ret
      exact ⟨ret_int (wchk_ok hl' (wOk_of fun j hj => H.out j hj (by omega))).symm, rfl⟩

end Go.Proofs.Ytnjenggijmbhcaa
/-
  Contracts of torchonref04: Check, Touch, Same, SameInts.
-/
namespace Go.Proofs.Ytnjenggijmbhcaa
open Go.RowKit
set_option maxHeartbeats 1000000 in
theorem check04 (p : Int) (A : Option Addr) (n c : Nat) (ws : List Wk) (w : World) (hn : n ≤ 9223372036854775807) (hw : RdW w w.heap.size A ws) (hl : ws.length = n)
    (hs : ∀ x ∈ ws, x.word.size ≤ 9223372036854775807) :
    Calls Try.prog 19 #[.agg #[.int .i64 p, .slice A n c]] w fun e w' => e = .returned (.int .i64 (schk p ws)) ∧ Below w.heap.size w w' := by
  have HW := Lib.hid hw; clear hw
  have HL := Lib.hid hl; clear hl
  have HS := Lib.hid hs; clear hs
  by_cases hp : 24 < p
  · go_enter Try.func19, Try.ntmps19
    go_wp2
    go_ret
    exact ⟨ret_int (schk_long (.inl hp)).symm, by go_grown⟩
  by_cases hn4 : 400 < n
  · go_enter Try.func19, Try.ntmps19
    go_wp2
    go_ret
    exact ⟨ret_int (schk_long (.inr (.inl (by rw [HL.out]; exact hn4)))).symm, by go_grown⟩
  have hp' : p ≤ 24 := by omega
  have hn4' : n ≤ 400 := by omega
  clear hp hn4
  go_enter Try.func19, Try.ntmps19
  go_wp2
  go_loop [3] (fun i => ∃ k : Nat, k ≤ n ∧ i = .int .i64 k ∧ ∀ (j : Nat) (x : Wk), j < k → ws[j]? = some x → x.word.size ≤ 16) (fun i => n - (intOf i).toNat)
  case atStart => exact ⟨0, Nat.zero_le _, rfl, fun j _ hj => absurd hj (by omega)⟩
  case round =>
    obtain ⟨k, hk, rfl, hno⟩ := hrel
    have H := Lib.hid hno; clear hno
    by_cases hlt : k < n
    · obtain ⟨x, hx⟩ := get_of_lt (l := ws) (k := k) (by rw [HL.out]; exact hlt)
      obtain ⟨b, o, rfl, hb, c1, c2, c3⟩ := HW.out k x hx
      have hsx := HS.out x (mem_of_get hx)
      have HX := Lib.hid hx; clear hx
      by_cases h16 : 16 < x.word.size
      · go_wp2
        go_ret
        exact ⟨ret_int (schk_long (.inr (.inr ⟨k, x, HX.out, h16⟩))).symm, by go_grown⟩
      · go_wp2
        go_round
        case rel => exact ⟨k + 1, by omega, by go_num, fun j y hj hy => by
          rcases Nat.lt_or_ge j k with h | h
          · exact H.out j y h hy
          · obtain rfl : j = k := by omega
            rw [HX.out] at hy
            obtain rfl := Option.some.inj hy
            omega⟩
        case measure => simp [intOf]; omega
    · have H16 : Hid (∀ (j : Nat) (x : Wk), ws[j]? = some x → x.word.size ≤ 16) := fun j x hx => H.out j x (by have := lt_of_get hx; rw [HL.out] at this; omega) hx
      clear H
      by_cases h2 : p < 2
      · go_wp2
        go_ret
        exact ⟨ret_int (schk_arg hp' (by rw [HL.out]; exact hn4') H16.out (.inl h2)).symm, by go_grown⟩
      have h2' : 2 ≤ p := by omega
      clear h2
      go_wp2
      go_loopw [4, 5] (fun i _ wr => ∃ k : Nat, k ≤ n ∧ i = .int .i64 k ∧ Below w.heap.size w wr ∧ wr.cell? ⟨w.heap.size, 0, none⟩ = some (.int .i64 p) ∧ wr.cell? ⟨w.heap.size, 1, none⟩ = some (.slice A n c) ∧ w.heap.size < wr.heap.size ∧ (∀ (j : Nat) (x : Wk), j < k → ws[j]? = some x → wkBad p x = false)) (fun i _ _ => n - (intOf i).toNat)
      case atStart => exact ⟨0, Nat.zero_le _, rfl, by go_grown, by go_simp, by go_simp, by go_grown, fun j _ hj => absurd hj (by omega)⟩
      case round =>
        obtain ⟨k, hk, rfl, hbw, d0, d1, hz, hno⟩ := hrel
        have H := Lib.hid hno; clear hno
        by_cases hlt : k < n
        · obtain ⟨x, hx⟩ := get_of_lt (l := ws) (k := k) (by rw [HL.out]; exact hlt)
          obtain ⟨b, o, rfl, hb, c1, c2, c3⟩ := (HW.out.below hbw (Nat.le_refl _)) k x hx
          have HX := Lib.hid hx; clear hx
          go_wp2
          all_goals first
            | (go_roundw
               case rel => exact ⟨k + 1, by omega, by go_num, by go_grown, by go_simp, by go_simp, by go_grown, get_step H.out HX.out (wkGood_of (by first | exact .inl ‹_› | exact .inr ⟨‹_›, ‹_›⟩) ‹_› ‹_›)⟩
               case measure => simp [intOf]; omega)
            | (go_ret
               exact ⟨ret_int (schk_arg hp' (by rw [HL.out]; exact hn4') H16.out (.inr ⟨k, x, HX.out, wkBad_of (by first | exact .inl ⟨‹_›, ‹_›⟩ | exact .inr (.inl ‹_›) | exact .inr (.inr (.inl ‹_›)) | exact .inr (.inr (.inr ⟨‹_›, ‹_›⟩)))⟩)).symm, by go_grown⟩)
        · have HB : Hid (∀ (j : Nat) (x : Wk), ws[j]? = some x → wkBad p x = false) := get_all H.out (by rw [HL.out]; omega)
          clear H
          go_wp2
          go_loopw [6] (fun i wr => ∃ k : Nat, k ≤ n ∧ i = .int .i64 k ∧ Below w.heap.size w wr ∧ wr.cell? ⟨w.heap.size, 0, none⟩ = some (.int .i64 p) ∧ wr.cell? ⟨w.heap.size, 1, none⟩ = some (.slice A n c) ∧ w.heap.size < wr.heap.size ∧ (∀ (j : Nat) (x : Wk), j < k → ws[j]? = some x → wOk x.word = true)) (fun i _ => n - (intOf i).toNat)
          case atStart => exact ⟨0, Nat.zero_le _, rfl, hbw, d0, d1, hz, fun j _ hj => absurd hj (by omega)⟩
          case round =>
            clear hbw d0 d1 hz
            obtain ⟨k, hk, rfl, hbw, d0, d1, hz, hno⟩ := hrel
            have H := Lib.hid hno; clear hno
            by_cases hlt : k < n
            · obtain ⟨x, hx⟩ := get_of_lt (l := ws) (k := k) (by rw [HL.out]; exact hlt)
              obtain ⟨b, o, rfl, hb, c1, c2, c3⟩ := (HW.out.below hbw (Nat.le_refl _)) k x hx
              have hsx := HS.out x (mem_of_get hx)
              have h16 := H16.out k x hx
              have HX := Lib.hid hx; clear hx
              by_cases hwx : wOk x.word = true
              · have hc0 := Lib.hid (wchk_ok h16 hwx)
                have hwx' := Lib.hid hwx; clear hwx
                go_wp2_with (go_at_call 43; refine (check03 _ _ hsx).mono ?_; rintro e w' ⟨rfl, rfl⟩; rw [hc0.out])
                go_roundw
                case rel => exact ⟨k + 1, by omega, by go_num, hbw, d0, d1, hz, get_step H.out HX.out hwx'.out⟩
                case measure => simp [intOf]; omega
              · have hwx2 : wOk x.word = false := by simpa using hwx
                have hc0 := Lib.hid (wchk_bad h16 hwx2)
                clear hwx
                have hwx' := Lib.hid hwx2; clear hwx2
                go_wp2_with (go_at_call 43; refine (check03 _ _ hsx).mono ?_; rintro e w' ⟨rfl, rfl⟩; rw [hc0.out])
                go_ret
                exact ⟨ret_int (schk_bad hp' (by rw [HL.out]; exact hn4') H16.out h2' HB.out ⟨k, x, HX.out, hwx'.out⟩).symm, hbw⟩
            · go_wp2
              go_ret
              exact ⟨ret_int (schk_ok hp' (by rw [HL.out]; exact hn4') H16.out h2' HB.out (get_all H.out (by rw [HL.out]; omega))).symm, hbw⟩
end Go.Proofs.Ytnjenggijmbhcaa
/-
  Contracts of torchonref04: Touch, Same, SameInts.
-/
namespace Go.Proofs.Ytnjenggijmbhcaa
open Go.RowKit
theorem touch04 (k1 a1 k2 a2 : Int) (s1 s2 : ByteArray) (w : World) (h1 : -1000 ≤ a1) (h2 : a1 ≤ 1000) (h3 : -1000 ≤ a2) (h4 : a2 ≤ 1000) :
    Calls Try.prog 20 #[.agg #[.int .i64 k1, .int .i64 a1, .string s1], .agg #[.int .i64 k2, .int .i64 a2, .string s2]] w fun e w' => e = .returned (.bool (touch a1 a2)) ∧ Below w.heap.size w w' := by
  go_enter Try.func20, Try.ntmps20
  go_wp2
  all_goals go_ret
  all_goals exact ⟨ret_bool (by simp [touch]; try omega), by go_grown⟩

set_option maxHeartbeats 400000 in
theorem sameInts04 (A B : Option Addr) (n m c d : Nat) (xs ys : List Int) (w : World) (hn : n ≤ 9223372036854775807) (hm : m ≤ 9223372036854775807) (hx : RdI w w.heap.size A xs) (hy : RdI w w.heap.size B ys) (hl : xs.length = n) (hl' : ys.length = m) :
    Calls Try.prog 17 #[.slice A n c, .slice B m d] w fun e w' => e = .returned (.bool (xs == ys)) ∧ Below w.heap.size w w' := by
  have HX := Lib.hid hx; clear hx
  have HY := Lib.hid hy; clear hy
  have HL := Lib.hid hl; clear hl
  have HM := Lib.hid hl'; clear hl'
  by_cases hnm : n = m
  · subst hnm
    go_enter Try.func17, Try.ntmps17
    go_wp2
    go_loopw [5] (fun i wr => ∃ k : Nat, k ≤ n ∧ i = .int .i64 k ∧ Below w.heap.size w wr ∧ (∀ (j : Nat) (x : Int), j < k → xs[j]? = some x → ys[j]? = some x)) (fun i _ => n - (intOf i).toNat)
    case atStart => exact ⟨0, Nat.zero_le _, rfl, by go_grown, fun j _ hj => absurd hj (by omega)⟩
    case round =>
      obtain ⟨k, hk, rfl, hbw, hno⟩ := hrel
      have H := Lib.hid hno; clear hno
      by_cases hlt : k < n
      · obtain ⟨x, hx⟩ := get_of_lt (l := xs) (k := k) (by rw [HL.out]; exact hlt)
        obtain ⟨y, hy⟩ := get_of_lt (l := ys) (k := k) (by rw [HM.out]; exact hlt)
        obtain ⟨b, o, rfl, hb, c1⟩ := (HX.out.below hbw (Nat.le_refl _)) k x hx
        obtain ⟨b', o', rfl, hb', c1'⟩ := (HY.out.below hbw (Nat.le_refl _)) k y hy
        have HX' := Lib.hid hx; clear hx
        have HY' := Lib.hid hy; clear hy
        go_wp2
        go_quiet (fail)
        go_wp2
        · go_ret
          exact ⟨ret_bool (beq_false (ne_of_get HX'.out HY'.out (by simpa using ‹(x != y) = true›))), below_drewN hbw _⟩
        · go_roundw
          case rel => exact ⟨k + 1, by omega, by go_num, below_drewN hbw _, pw_step H.out HX'.out HY'.out (by simpa using ‹(x != y) = false›)⟩
          case measure => simp [intOf]; omega
      · go_wp2
        go_ret
        exact ⟨ret_bool (beq_true (eq_of_get (by rw [HL.out, HM.out]) (fun j x hx => H.out j x (by have := lt_of_get hx; rw [HL.out] at this; omega) hx))), hbw⟩
  · go_enter Try.func17, Try.ntmps17
    go_wp2
    go_ret
    exact ⟨ret_bool (beq_false (ne_of_len HL.out HM.out hnm)), by go_grown⟩
end Go.Proofs.Ytnjenggijmbhcaa
