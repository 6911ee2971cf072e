/-
  Words on clothes: a slice of crossings or pins read as a list; what the document says of a cloth's numbers.
-/
import Derived.Test.YtpljaoagiaijiaaOwn
namespace Go.Proofs.Ytpljaoagiaijiaa
open Go.RowKit
/-- a crossing or a pin: its four numbers -/
structure Q4 where
  a : Int
  b : Int
  c : Int
  d : Int
deriving DecidableEq
def RdQ (w : World) (B : Nat) (A : Option Addr) (xs : List Q4) : Prop :=
  ∀ (k : Nat) (x : Q4), xs[k]? = some x → ∃ b o, A = some ⟨b, o, none⟩ ∧ b < B ∧
    w.cell? ⟨b, o + k*4, none⟩ = some (.int .i64 x.a) ∧ w.cell? ⟨b, o + k*4+1, none⟩ = some (.int .i64 x.b) ∧ w.cell? ⟨b, o + k*4+2, none⟩ = some (.int .i64 x.c) ∧ w.cell? ⟨b, o+k*4+3, none⟩ = some (.int .i64 x.d)
theorem RdQ.below {w w' : World} {B B' : Nat} {A : Option Addr} {xs : List Q4} (h : RdQ w B A xs) (hb : Below B w w') (hB : B ≤ B') : RdQ w' B' A xs := fun k x hx => by
  obtain ⟨b, o, h1, h2, h3, h4, h5, h6⟩ := h k x hx
  exact ⟨b, o, h1, Nat.lt_of_lt_of_le h2 hB, (hb.cell h2).trans h3, (hb.cell h2).trans h4, (hb.cell h2).trans h5, (hb.cell h2).trans h6⟩
theorem RdQ.up {w w' : World} {A : Option Addr} {xs : List Q4} (h : RdQ w w.heap.size A xs) (hb : Below w.heap.size w w') : RdQ w' w'.heap.size A xs := h.below hb hb.size
theorem RdQ.nil (w : World) (B : Nat) (A : Option Addr) : RdQ w B A [] := fun k x hx => by simp at hx
def okC (t : Int) (x : Q4) : Bool := decide (0 ≤ x.b) && decide (x.b ≤ t - 2) && decide (0 ≤ x.a)
def okP (t : Int) (x : Q4) : Bool := decide (0 ≤ x.b) && decide (x.b ≤ t - 2) && decide (0 ≤ x.a) && decide (0 ≤ x.c) && decide (x.c < t) && decide (0 ≤ x.d) && decide (x.d < t) && !(x.c == x.d)
def numsOk (t : Int) (xs ps : List Q4) : Bool := decide (2 ≤ t) && xs.all (okC t) && ps.all (okP t)
/-- a cloth as a value -/
abbrev vCloth (t : Int) (A : Option Addr) (n c : Nat) (B : Option Addr) (m d : Nat) : Value := .agg #[.int .i64 t, .slice A n c, .slice B m d]
theorem all_step {α : Type} {p : α → Bool} {l : List α} {k : Nat} {x : α} (hx : l[k]? = some x) : (l.take (k + 1)).all p = ((l.take k).all p && p x) := by
  rw [List.take_add_one, hx]; simp
theorem all_false {α : Type} {p : α → Bool} {l : List α} {k : Nat} {x : α} (hx : l[k]? = some x) (h : p x = false) : l.all p = false := by
  rw [List.all_eq_false]; exact ⟨x, mem_of_get hx, by rw [h]; simp⟩
end Go.Proofs.Ytpljaoagiaijiaa
