/-
  Plain words: the cloth that a sheet makes, step by step (chapter 17).
-/
import Derived.Test.YtpljaoagiaijiaaMk1
namespace Go.Proofs.Ytpljaoagiaijiaa
open Go.RowKit
/-- the line, the crossings and the pins made so far -/
structure Mk where
  l : List Int
  xs : List Q4
  ps : List Q4
def Mk.pin (s : Mk) (i : Int) (mid : Nat) : Mk := { s with ps := s.ps ++ [⟨i, (mid : Int), s.l.getD mid 0, s.l.getD (mid + 1) 0⟩] }
/-- the place of a crossing of a work -/
def mkAt (mid : Nat) (n : Int) : Int := (mid : Int) - 2 + (if n < -n then -n else n)
def mkX (l : List Int) (i : Int) (mid : Nat) (n : Int) : Q4 := if n < 0 then ⟨i, mkAt mid n, l.getD ((mkAt mid n).toNat + 1) 0, l.getD (mkAt mid n).toNat 0⟩ else ⟨i, mkAt mid n, l.getD (mkAt mid n).toNat 0, l.getD ((mkAt mid n).toNat + 1) 0⟩
def Mk.cross (s : Mk) (i : Int) (mid : Nat) (n : Int) : Mk := { s with l := swapL s.l (mkX s.l i mid n), xs := s.xs ++ [mkX s.l i mid n] }
/-- the first k crossings of a letter -/
def Mk.crosses (s : Mk) (i : Int) (mid : Nat) (ns : List Int) : Nat → Mk
  | 0 => s
  | k + 1 => match ns[k]? with
    | some n => (s.crosses i mid ns k).cross i mid n
    | none => s.crosses i mid ns k
def Mk.letter (s : Mk) (i : Int) (mid : Nat) (c : UInt8) : Mk := if c = 80 then s.pin i mid else s.crosses i mid (crW [c] 1) (crW [c] 1).length
/-- the first k letters of a word -/
def Mk.letters (s : Mk) (i : Int) (mid : Nat) (bs : List UInt8) : Nat → Mk
  | 0 => s
  | k + 1 => match bs[k]? with
    | some c => (s.letters i mid bs k).letter i mid c
    | none => s.letters i mid bs k
/-- the place between the two pairs of a work -/
def mkMid (x : Wk) : Nat := 2 * x.at_.toNat + 1
def Mk.work (s : Mk) (i : Nat) (x : Wk) : Mk := (if x.kind = 2 then s.pin (i : Int) (mkMid x) else s).letters (i : Int) (mkMid x) x.word.data.toList x.word.data.toList.length
/-- the first k works of a sheet -/
def Mk.works (ws : List Wk) : Nat → Mk
  | 0 => ⟨lineL 48, [], []⟩
  | k + 1 => match ws[k]? with
    | some x => (Mk.works ws k).work k x
    | none => Mk.works ws k
theorem Mk.cross_len (s : Mk) (i : Int) (mid : Nat) (n : Int) : (s.cross i mid n).l.length = s.l.length := by
  unfold Mk.cross swapL; simp
theorem Mk.crosses_len (s : Mk) (i : Int) (mid : Nat) (ns : List Int) : ∀ k, (s.crosses i mid ns k).l.length = s.l.length
  | 0 => rfl
  | k + 1 => by
    unfold Mk.crosses
    split
    · rw [Mk.cross_len, Mk.crosses_len s i mid ns k]
    · exact Mk.crosses_len s i mid ns k
theorem Mk.letter_len (s : Mk) (i : Int) (mid : Nat) (c : UInt8) : (s.letter i mid c).l.length = s.l.length := by
  unfold Mk.letter
  split
  · rfl
  · exact Mk.crosses_len _ _ _ _ _
theorem Mk.letters_len (s : Mk) (i : Int) (mid : Nat) (bs : List UInt8) : ∀ k, (s.letters i mid bs k).l.length = s.l.length
  | 0 => rfl
  | k + 1 => by
    unfold Mk.letters
    split
    · rw [Mk.letter_len, Mk.letters_len s i mid bs k]
    · exact Mk.letters_len s i mid bs k
theorem Mk.work_len (s : Mk) (i : Nat) (x : Wk) : (s.work i x).l.length = s.l.length := by
  unfold Mk.work
  rw [Mk.letters_len]
  split <;> rfl
theorem Mk.works_len (ws : List Wk) : ∀ k, (Mk.works ws k).l.length = 48
  | 0 => lineL_len 48
  | k + 1 => by
    unfold Mk.works
    split
    · rw [Mk.work_len, Mk.works_len ws k]
    · exact Mk.works_len ws k
/-- two rows of the call's own with elements of two types lie in two blocks -/
theorem own_apart {w : World} {base base' : Nat} {e e' : TypeId} {size size' n n' : Nat} {v v' : Value} {xs xs' : List Value} (h : w.ownsRow base e size v n xs) (h' : w.ownsRow base' e' size' v' n' xs') (hne : e ≠ e') {b : Nat} (hb : v.ownBlock = some b) : v'.ownBlock ≠ some b := by
  rcases h.2 with ⟨rfl, _⟩ | ⟨g, cap, cur, rfl, _, hh, _⟩
  · simp [Value.ownBlock] at hb
  · have hg : g = b := by simpa [Value.ownBlock] using hb
    subst hg
    have hH : Has w g e cur.toList := by unfold Has; rw [hh, Array.toArray_toList]
    exact hH.ne_own h' hne
/-- the example of the document -/
theorem mk_example : (Mk.works [⟨1, 0, ⟨#[67, 84, 80, 67]⟩⟩] 1).xs = [⟨0, 1, 1, 2⟩, ⟨0, 0, 2, 0⟩, ⟨0, 2, 3, 1⟩, ⟨0, 1, 0, 3⟩] ∧ (Mk.works [⟨1, 0, ⟨#[67, 84, 80, 67]⟩⟩] 1).ps = [⟨0, 1, 0, 3⟩] := by decide +kernel
end Go.Proofs.Ytpljaoagiaijiaa
