/-
  Contracts: stitches.crossings and Crossings (chapter 3).
-/
import Derived.Test.YtnjenggijmbhcaaVK12
import Derived.Test.YtnjenggijmbhcaaVK18
import Derived.Test.YtnjenggijmbhcaaVK19
namespace Go.Proofs.Ytnjenggijmbhcaa
open Go.RowKit
/-- the crossings of the first k places of a letter -/
def crT (v : List Int) : Nat → List Int
  | 0 => []
  | k + 1 => if v.getD k 0 = 0 then crT v k else crT v k ++ [v.getD k 0 * ((k : Int) + 1)]
/-- the crossings of the first i letters of a word -/
def crW (bs : List UInt8) : Nat → List Int
  | 0 => []
  | i + 1 => match bs[i]? with
    | some c => crW bs i ++ crT (twV c) 3
    | none => crW bs i
theorem crW_succ {bs : List UInt8} {i : Nat} {c : UInt8} (h : bs[i]? = some c) : crW bs (i + 1) = crW bs i ++ crT (twV c) 3 := by
  show (match bs[i]? with | some c => crW bs i ++ crT (twV c) 3 | none => crW bs i) = _
  rw [h]
theorem twV_le (c : UInt8) : ∀ v ∈ twV c, -1 ≤ v ∧ v ≤ 1 := by
  unfold twV
  repeat' split
  all_goals (intro v hv; simp at hv; omega)
end Go.Proofs.Ytnjenggijmbhcaa
/-
  Contract of chapter 17: the closure of Make that puts in a pin.
-/
namespace Go.Proofs.Ytnjenggijmbhcaa
open Go.RowKit
def q4C (x : Q4) : List Value := [.int .i64 x.a, .int .i64 x.b, .int .i64 x.c, .int .i64 x.d]
def qsC (ws : List Q4) : List Value := ws.flatMap q4C
/-- all but one block, and the block of a row, is as it was -/
structure KeepP (gc : Nat) (blk : Option Nat) (V W : World) : Prop where
  os : W.os = V.os
  tape : W.tape = V.tape
  output : W.output = V.output
  size : V.heap.size ≤ W.heap.size
  same : ∀ r, r < V.heap.size → r ≠ gc → some r ≠ blk → W.heap[r]? = V.heap[r]?
theorem KeepP.mk1 {gc : Nat} {blk : Option Nat} {V V2 W : World} (h : Below V.heap.size V V2) (k : V2.grownBy W blk) (i : Nat) (u : Value) : KeepP gc blk V (W.setCell ⟨gc, i, none⟩ u) := by
  have hs := (Below.refl 0 W).setCell (p := ⟨gc, i, none⟩) (Nat.zero_le _) u
  exact ⟨hs.os.trans (k.os.trans h.os), hs.tape.trans (k.tape.trans h.tape), hs.output.trans (k.output.trans h.output), Nat.le_trans (Nat.le_trans h.size k.size) hs.size,
    fun r hr hne hb => (Below.heap_setCell W _ u r hne).trans ((k.block r (Nat.lt_of_lt_of_le hr h.size) hb).trans (h.block r hr))⟩
theorem KeepP.drew {gc : Nat} {blk : Option Nat} {V W : World} (h : KeepP gc blk V W) : KeepP gc blk V W.drew := ⟨h.os, h.tape, h.output, h.size, h.same⟩
theorem qsC_app (ws : List Q4) (x : Q4) : qsC (ws ++ [x]) = qsC ws ++ q4C x := by simp [qsC]
end Go.Proofs.Ytnjenggijmbhcaa
/-
  Plain words: the cloth that a sheet makes, step by step (chapter 17).
-/
namespace Go.Proofs.Ytnjenggijmbhcaa
open Go.RowKit
/-- the line, the crossings and the pins made so far -/
structure Mk where
  l : List Int
  xs : List Q4
  ps : List Q4
def Mk.pin (s : Mk) (i : Int) (mid : Nat) : Mk := { s with ps := s.ps ++ [⟨i, (mid : Int), s.l.getD mid 0, s.l.getD (mid + 1) 0⟩] }
/-- the place of a crossing of a work -/
def mkAt (mid : Nat) (n : Int) : Int := (mid : Int) - 2 + (if n < -n then -n else n)
def mkX (l : List Int) (i : Int) (mid : Nat) (n : Int) : Q4 := if n < 0 then ⟨i, mkAt mid n, l.getD ((mkAt mid n).toNat + 1) 0, l.getD (mkAt mid n).toNat 0⟩ else ⟨i, mkAt mid n, l.getD (mkAt mid n).toNat 0, l.getD ((mkAt mid n).toNat + 1) 0⟩
def Mk.cross (s : Mk) (i : Int) (mid : Nat) (n : Int) : Mk := { s with l := swapL s.l (mkX s.l i mid n), xs := s.xs ++ [mkX s.l i mid n] }
/-- the first k crossings of a letter -/
def Mk.crosses (s : Mk) (i : Int) (mid : Nat) (ns : List Int) : Nat → Mk
  | 0 => s
  | k + 1 => match ns[k]? with
    | some n => (s.crosses i mid ns k).cross i mid n
    | none => s.crosses i mid ns k
def Mk.letter (s : Mk) (i : Int) (mid : Nat) (c : UInt8) : Mk := if c = 80 then s.pin i mid else s.crosses i mid (crW [c] 1) (crW [c] 1).length
/-- the first k letters of a word -/
def Mk.letters (s : Mk) (i : Int) (mid : Nat) (bs : List UInt8) : Nat → Mk
  | 0 => s
  | k + 1 => match bs[k]? with
    | some c => (s.letters i mid bs k).letter i mid c
    | none => s.letters i mid bs k
/-- the place between the two pairs of a work -/
def mkMid (x : Wk) : Nat := 2 * x.at_.toNat + 1
def Mk.work (s : Mk) (i : Nat) (x : Wk) : Mk := (if x.kind = 2 then s.pin (i : Int) (mkMid x) else s).letters (i : Int) (mkMid x) x.word.data.toList x.word.data.toList.length
/-- the first k works of a sheet -/
def Mk.works (ws : List Wk) : Nat → Mk
  | 0 => ⟨lineL 48, [], []⟩
  | k + 1 => match ws[k]? with
    | some x => (Mk.works ws k).work k x
    | none => Mk.works ws k
theorem Mk.cross_len (s : Mk) (i : Int) (mid : Nat) (n : Int) : (s.cross i mid n).l.length = s.l.length := by
  unfold Mk.cross swapL; simp
theorem Mk.crosses_len (s : Mk) (i : Int) (mid : Nat) (ns : List Int) : ∀ k, (s.crosses i mid ns k).l.length = s.l.length
  | 0 => rfl
  | k + 1 => by
    unfold Mk.crosses
    split
    · rw [Mk.cross_len, Mk.crosses_len s i mid ns k]
    · exact Mk.crosses_len s i mid ns k
theorem Mk.letter_len (s : Mk) (i : Int) (mid : Nat) (c : UInt8) : (s.letter i mid c).l.length = s.l.length := by
  unfold Mk.letter
  split
  · rfl
  · exact Mk.crosses_len _ _ _ _ _
theorem Mk.letters_len (s : Mk) (i : Int) (mid : Nat) (bs : List UInt8) : ∀ k, (s.letters i mid bs k).l.length = s.l.length
  | 0 => rfl
  | k + 1 => by
    unfold Mk.letters
    split
    · rw [Mk.letter_len, Mk.letters_len s i mid bs k]
    · exact Mk.letters_len s i mid bs k
theorem Mk.work_len (s : Mk) (i : Nat) (x : Wk) : (s.work i x).l.length = s.l.length := by
  unfold Mk.work
  rw [Mk.letters_len]
  split <;> rfl
theorem Mk.works_len (ws : List Wk) : ∀ k, (Mk.works ws k).l.length = 48
  | 0 => lineL_len 48
  | k + 1 => by
    unfold Mk.works
    split
    · rw [Mk.work_len, Mk.works_len ws k]
    · exact Mk.works_len ws k
/-- two rows of the call's own with elements of two types lie in two blocks -/
theorem own_apart {w : World} {base base' : Nat} {e e' : TypeId} {size size' n n' : Nat} {v v' : Value} {xs xs' : List Value} (h : w.ownsRow base e size v n xs) (h' : w.ownsRow base' e' size' v' n' xs') (hne : e ≠ e') {b : Nat} (hb : v.ownBlock = some b) : v'.ownBlock ≠ some b := by
  rcases h.2 with ⟨rfl, _⟩ | ⟨g, cap, cur, rfl, _, hh, _⟩
  · simp [Value.ownBlock] at hb
  · have hg : g = b := by simpa [Value.ownBlock] using hb
    subst hg
    have hH : Has w g e cur.toList := by unfold Has; rw [hh, Array.toArray_toList]
    exact hH.ne_own h' hne
/-- the example of the document -/
theorem mk_example : (Mk.works [⟨1, 0, ⟨#[67, 84, 80, 67]⟩⟩] 1).xs = [⟨0, 1, 1, 2⟩, ⟨0, 0, 2, 0⟩, ⟨0, 2, 3, 1⟩, ⟨0, 1, 0, 3⟩] ∧ (Mk.works [⟨1, 0, ⟨#[67, 84, 80, 67]⟩⟩] 1).ps = [⟨0, 1, 0, 3⟩] := by decide +kernel
end Go.Proofs.Ytnjenggijmbhcaa
