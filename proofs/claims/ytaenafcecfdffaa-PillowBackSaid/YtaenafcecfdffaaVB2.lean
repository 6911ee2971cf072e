/-
  A range over a function whose body writes: the caller says what holds between two rounds (I), what a round may change (K), and is told of each value's memory (Ok).
-/
import Derived.Test.YtaenafcecfdffaaVB1
import Derived.Laws.StandIn
import Derived.Lib.Bytealg
import Derived.StillTail
import Derived.Deep.RegionHeld3
import Derived.RegionTactic
import Derived.RangeFuncNested
import Derived.RangeFuncCalls
import Derived.OrdersIn
import Derived.Laws.Rows
import Derived.Laws.Tables
import Derived.TacticsIn
import Derived.Laws.StructEq
import Derived.Laws.Cover3
namespace Go.Proofs.Ytaenafcecfdffaa
open Go.RowKit
theorem range_lawK {P : Program} {n : Nat} {g : Operand} {ps : Array Tmp} {assign body : Code} {Q : Exit → Act → World → Prop} {a : Act} {w : World} {gf : Nat} {lb : Array Value}
    (hg : a.eval g = .func (.func gf) #[] lb) (eg : ∀ args w, (callFunc gf args).run P w = .ok (.enter gf args) w)
    {α : Type} (encs : α → Array Value) (hps : ∀ x, (encs x).size = ps.size)
    (I : Nat → List α → World → Prop) (S : List α → Prop) (Ok : Nat → List α → α → World → Prop) (K : Nat → Nat → World → World → Prop) (hKt : ∀ l hi A B C, K l hi A B → K l hi B C → K l hi A C) (hKp : ∀ l hi (A : World) o o', A.heap[l]? = some o → o.isCells = false → K l hi A (A.putObj l o'))
    (hI : ∀ hi, OwnFrom w.heap.size (I hi)) (h0 : I w.heap.size [] w)
    (hiter : ∀ (l d : Nat) (r0 : Loop) (W : World), w.heap.size ≤ d → d < l → KeepBut l w W → Mid (I w.heap.size) l d r0 [] W →
      (∀ hi pre x W1, Ok hi pre x W1 → hi ≤ W1.heap.size → Mid (I hi) l d r0 pre W1 → YieldAt Fence.wide n P l (encs x) W1 fun e W' => e = .returned (.bool true) ∧ Mid (I W'.heap.size) l d r0 (pre ++ [x]) W' ∧ K l hi W1 W') →
      CallsIn Fence.wide n P gf (#[.func (.yield l) #[] #[]] ++ lb) W fun e W' => (∃ v, e = .returned v) ∧ (∃ hi xs, S xs ∧ Mid (I hi) l d r0 xs W'))
    (hround : ∀ (hi l : Nat) (pre : List α) (x : α) (W : World) (o : Obj), Ok hi pre x W → w.heap.size < l → hi ≤ W.heap.size → I hi pre W → W.heap[l]? = some o → o.isCells = false →
      assign.wpIn (Fence.wide.inRound l) n P (Exit.then (fun a₁ W1 => KeepsOthers W W1 ∧ K l hi W W1 ∧ ∀ o', o'.isCells = false → body.wpIn (Fence.wide.inRound l) n P (fun e _ W3 => match e with
          | .normal => KeepsOthers (W1.putObj l o') W3 ∧ K l hi (W1.putObj l o') W3 ∧ I W3.heap.size (pre ++ [x]) W3
          | _ => False) a₁ (W1.putObj l o')) (fun _ _ _ => False)) { tmps := (ps.zip (encs x)).foldl (fun t (p, v) => t.setIfInBounds p v) a.tmps, defers := [] } W)
    (hdone : ∀ (D hi : Nat) (xs : List α) (W : World), w.heap.size ≤ D → S xs → I hi xs W → W.heap[D]? = some (.deferred (some [])) → Q .normal { a with defers := { target := .collected D, args := #[] } :: a.defers } W) :
    (Code.rangeFunc g ps assign body).wpIn Fence.wide n P Q a w := by
  refine wpIn_rangeFunc fun fn hfn => ?_
  obtain ⟨rc, hrc⟩ : ∃ rc : LoopState → Option Code → Loop, rc = fun st pe => { state := st, pending := pe, fn := fn, tmps := a.tmps, params := ps, assign := assign, body := body, defers := w.heap.size } := ⟨_, rfl⟩
  have hent := run_enterLoop_outer (P := P) (w := w) fn a.tmps ps assign body
  have hb1 : KeepBut (w.heap.size + 1) w ((w.alloc (.deferred (some []))).alloc (.loop (rc .ready none))) :=
    ⟨by simp; omega, fun r hr _ => (Below.heap_alloc _ _ r (by simp; omega)).trans (Below.heap_alloc w _ r hr)⟩
  have hL1 : ((w.alloc (.deferred (some []))).alloc (.loop (rc .ready none))).heap[w.heap.size + 1]? = some (.loop (rc .ready none)) := by
    have := World.alloc_heap_new (w.alloc (.deferred (some []))) (.loop (rc .ready none)); rwa [World.size_alloc] at this
  have hD1 : ((w.alloc (.deferred (some []))).alloc (.loop (rc .ready none))).heap[w.heap.size]? = some (.deferred (some [])) :=
    (Below.heap_alloc _ _ _ (by simp)).trans (World.alloc_heap_new w _)
  have hI1 : I w.heap.size [] ((w.alloc (.deferred (some []))).alloc (.loop (rc .ready none))) := (hI _).alloc _ ((hI _).alloc _ h0)
  refine ⟨w.heap.size + 1, [{ target := .collected w.heap.size, args := #[] }], ((w.alloc (.deferred (some []))).alloc (.loop (rc .ready none))), { target := .fn (.func gf) lb, args := #[.func (.yield (w.heap.size + 1)) #[] #[]] }, _, gf,
    #[.func (.yield (w.heap.size + 1)) #[] #[]] ++ lb, _, by rw [hrc]; exact hent, by simp only [resolve, hg]; simp [go_sem]; rfl, fun _ _ => trivial, by simp [invoke, go_sem, eg]; rfl, fun h => by simp [Fence.wide] at h, ?_⟩
  subst hrc
  refine callsIn_wide.2 (callsIn_wide.1 ((hiter (w.heap.size + 1) w.heap.size _ _ (Nat.le_refl _) (Nat.lt_succ_self _) hb1 ⟨hI1, hL1, hD1⟩ ?_).mono ?_))
  · rintro top pre x W hok htop ⟨hi, hl, hk⟩
    refine ⟨fn, _, assign, body, run_yield (P := P) (args := encs x) hl (hps x), roundIn_of_wpIn hfn ?_⟩
    refine wpIn_mono (hround top (w.heap.size + 1) pre x W _ hok (Nat.lt_succ_self _) htop hi hl rfl) ?_
    rintro e a1 W1 hp
    cases e with
    | normal =>
      obtain ⟨hko, hkb, hbd⟩ := hp
      have hl1 := hko.same _ _ hl rfl
      have hk1 := hko.same _ _ hk rfl
      have hlt := (Array.getElem?_eq_some_iff.1 hl1).1
      refine ⟨_, run_beginRound hl1 rfl, wpIn_mono (hbd _ rfl) ?_⟩
      rintro e a3 W3 hq
      cases e with
      | normal =>
        obtain ⟨hk3, hb3, hi3⟩ := hq
        have hl3 := hk3.same _ _ (World.putObj_heap_same hlt) rfl
        have hd3 := hk3.same _ _ ((World.putObj_heap_other (by omega)).trans hk1) rfl
        refine ⟨_, _, run_endRound none hl3, ⟨rfl, ⟨?_, World.putObj_heap_same (Array.getElem?_eq_some_iff.1 hl3).1, (World.putObj_heap_other (by omega)).trans hd3⟩, ?_⟩⟩
        · have hz : ∀ o, (W3.putObj (w.heap.size + 1) o).heap.size = W3.heap.size := fun o => by simp [World.putObj]
          rw [hz]
          exact (hI _).putObj _ hi3 (by omega) hl3 rfl
        · exact hKt _ _ _ _ _ (hKt _ _ _ _ _ (hKt _ _ _ _ _ hkb (hKp _ _ _ _ _ hl1 rfl)) hb3) (hKp _ _ _ _ _ hl3 rfl)
      | ret => exact hq.elim
      | exit id => exact hq.elim
      | goto t => exact hq.elim
      | panic ch => exact hq.elim
      | outgrown => exact hq.elim
    | ret => exact hp.elim
    | exit id => exact hp.elim
    | goto t => exact hp.elim
    | panic ch => exact hp.elim
    | outgrown => exact hp.elim
  · rintro e W2 ⟨⟨v, rfl⟩, ⟨hi, xs, hS, hm⟩⟩
    exact ⟨none, _, run_endLoop (P := P) hm.rec_ (by simp), hdone _ hi xs _ (Nat.le_refl _) hS ((hI _).putObj _ hm.inv (by omega) hm.rec_ rfl) ((World.putObj_heap_other (by omega)).trans hm.dfr)⟩
end Go.Proofs.Ytaenafcecfdffaa
/-
  Contracts of package stitches (words of moves): IndexByte, Check, and of the library's IndexByte beneath.
-/
namespace Go.Proofs.Ytaenafcecfdffaa
open Go.RowKit
theorem indexByte_eq (l : List UInt8) (c : UInt8) : Lib.indexByte l c = idxOf l c := by
  induction l with
  | nil => rfl
  | cons b l ih =>
    unfold Lib.indexByte
    unfold idxOf at ih ⊢
    simp only [List.idxOf?] at ih ⊢
    rw [List.findIdx?_cons]
    cases hb : (b == c) with
    | true => simp
    | false =>
      rw [ih]
      cases h : List.findIdx? (fun x => x == c) l with
      | none => simp
      | some k =>
        have : ¬ ((k : Int) = -1) := by omega
        simp [this]
theorem idxExt (s : ByteArray) (c : UInt8) (w : World) : (callFunc 90 #[.string s, .int .u8 c.toNat]).run Try.prog w = .ok (.value (.int .i64 (idxOf s.data.toList c))) w := by
  rw [run_callFunc_indexByte Try.func90 (by kernel_rfl) (by kernel_rfl) (by kernel_rfl) (by kernel_rfl), Lib.run_indexByteString]
  rw [indexByte_eq]
  have : (c.toNat : Int).toNat.toUInt8 = c := by simp
  rw [this]
  rfl
theorem liteIndex (s : ByteArray) (c : UInt8) (w : World) :
    Calls Try.prog 87 #[.string s, .int .u8 c.toNat] w fun e w' => e = .returned (.int .i64 (idxOf s.data.toList c)) ∧ w = w' := by
  go_enter Try.func87, Try.ntmps87
  go_wp2_with (simp only [idxExt])
  go_ret
  exact ⟨rfl, rfl⟩
theorem strIndex (s : ByteArray) (c : UInt8) (w : World) :
    Calls Try.prog 81 #[.string s, .int .u8 c.toNat] w fun e w' => e = .returned (.int .i64 (idxOf s.data.toList c)) ∧ w = w' := by
  go_enter Try.func81, Try.ntmps81
  go_wp2_with (go_at_call 87; refine (liteIndex _ _ _).mono ?_; rintro e w' ⟨rfl, rfl⟩)
  go_ret
  exact ⟨rfl, rfl⟩
theorem strIndex_let (c : UInt8) (w : World) :
    Calls Try.prog 81 #[.string ⟨#[67, 84, 76, 82, 80, 99, 116, 108, 114]⟩, .int .u8 c.toNat] w fun e w' => e = .returned (.int .i64 (idxOf letters c)) ∧ w = w' :=
  strIndex ⟨#[67, 84, 76, 82, 80, 99, 116, 108, 114]⟩ c w

set_option maxRecDepth 100000 in
set_option maxHeartbeats 400000 in
theorem stCheck (s : ByteArray) (w : World) (hs : s.size ≤ 9223372036854775807) :
    Calls Try.prog 68 #[.string s] w fun e w' => e = .returned (.int .i64 (wchk s)) ∧ w = w' := by
  by_cases hl : 16 < s.size
  · go_enter Try.func68, Try.ntmps68
    go_wp2
    go_ret
    exact ⟨ret_int (wchk_long hl).symm, rfl⟩
  have hl' : s.size ≤ 16 := by omega
  go_enter Try.func68, Try.ntmps68
  go_wp2
  go_loop [9] (fun i => ∃ k : Nat, k ≤ s.size ∧ i = .int .i64 k ∧ ∀ j, ∀ hj : j < s.size, j < k → isLet s[j] = true) (fun i => s.size - (intOf i).toNat)
  case atStart => exact ⟨0, Nat.zero_le _, rfl, fun j _ hj => absurd hj (by omega)⟩
  case round =>
    obtain ⟨k, hk, rfl, hno⟩ := hrel
    have H := Lib.hid hno; clear hno
    by_cases hlt : k < s.size
    · by_cases hc : 0 ≤ idxOf letters s[k]
      · go_wp2_with (go_at_call 81; refine (strIndex_let _ _).mono ?_; rintro e w' ⟨rfl, rfl⟩)
        go_round
        case rel => exact ⟨k + 1, by omega, by go_num, fun j hs' hj => by
          rcases Nat.lt_or_ge j k with h | h
          · exact H.out j hs' h
          · obtain rfl : j = k := by omega
            exact (isLet_iff _).2 hc⟩
        case measure => simp [intOf]; omega
      · have hc' : idxOf letters s[k] < 0 := by omega
        go_wp2_with (go_at_call 81; refine (strIndex_let _ _).mono ?_; rintro e w' ⟨rfl, rfl⟩)
        go_ret
        exact ⟨ret_int (wchk_bad hl' (wOk_not hlt (idx_no hc'))).symm, rfl⟩
    · go_wp2
      go_ret
      exact ⟨ret_int (wchk_ok hl' (wOk_of fun j hj => H.out j hj (by omega))).symm, rfl⟩
end Go.Proofs.Ytaenafcecfdffaa
/-
  Words on clothes: a slice of crossings or pins read as a list; what the document says of a cloth's numbers.
-/
namespace Go.Proofs.Ytaenafcecfdffaa
open Go.RowKit
/-- a crossing or a pin: its four numbers -/
structure Q4 where
  a : Int
  b : Int
  c : Int
  d : Int
deriving DecidableEq
def RdQ (w : World) (B : Nat) (A : Option Addr) (xs : List Q4) : Prop :=
  ∀ (k : Nat) (x : Q4), xs[k]? = some x → ∃ b o, A = some ⟨b, o, none⟩ ∧ b < B ∧
    w.cell? ⟨b, o + k*4, none⟩ = some (.int .i64 x.a) ∧ w.cell? ⟨b, o + k*4+1, none⟩ = some (.int .i64 x.b) ∧ w.cell? ⟨b, o + k*4+2, none⟩ = some (.int .i64 x.c) ∧ w.cell? ⟨b, o+k*4+3, none⟩ = some (.int .i64 x.d)
theorem RdQ.below {w w' : World} {B B' : Nat} {A : Option Addr} {xs : List Q4} (h : RdQ w B A xs) (hb : Below B w w') (hB : B ≤ B') : RdQ w' B' A xs := fun k x hx => by
  obtain ⟨b, o, h1, h2, h3, h4, h5, h6⟩ := h k x hx
  exact ⟨b, o, h1, Nat.lt_of_lt_of_le h2 hB, (hb.cell h2).trans h3, (hb.cell h2).trans h4, (hb.cell h2).trans h5, (hb.cell h2).trans h6⟩
theorem RdQ.up {w w' : World} {A : Option Addr} {xs : List Q4} (h : RdQ w w.heap.size A xs) (hb : Below w.heap.size w w') : RdQ w' w'.heap.size A xs := h.below hb hb.size
theorem RdQ.nil (w : World) (B : Nat) (A : Option Addr) : RdQ w B A [] := fun k x hx => by simp at hx
def okC (t : Int) (x : Q4) : Bool := decide (0 ≤ x.b) && decide (x.b ≤ t - 2) && decide (0 ≤ x.a)
def okP (t : Int) (x : Q4) : Bool := decide (0 ≤ x.b) && decide (x.b ≤ t - 2) && decide (0 ≤ x.a) && decide (0 ≤ x.c) && decide (x.c < t) && decide (0 ≤ x.d) && decide (x.d < t) && !(x.c == x.d)
def numsOk (t : Int) (xs ps : List Q4) : Bool := decide (2 ≤ t) && xs.all (okC t) && ps.all (okP t)
/-- a cloth as a value -/
abbrev vCloth (t : Int) (A : Option Addr) (n c : Nat) (B : Option Addr) (m d : Nat) : Value := .agg #[.int .i64 t, .slice A n c, .slice B m d]
theorem all_step {α : Type} {p : α → Bool} {l : List α} {k : Nat} {x : α} (hx : l[k]? = some x) : (l.take (k + 1)).all p = ((l.take k).all p && p x) := by
  rw [List.take_add_one, hx]; simp
theorem all_false {α : Type} {p : α → Bool} {l : List α} {k : Nat} {x : α} (hx : l[k]? = some x) (h : p x = false) : l.all p = false := by
  rw [List.all_eq_false]; exact ⟨x, mem_of_get hx, by rw [h]; simp⟩
end Go.Proofs.Ytaenafcecfdffaa
/-
  Contracts of torchonref17: numbers.
-/
namespace Go.Proofs.Ytaenafcecfdffaa
open Go.RowKit
end Go.Proofs.Ytaenafcecfdffaa
/-
  Contracts of torchonref17: line, ends, Check.
-/
namespace Go.Proofs.Ytaenafcecfdffaa
open Go.RowKit
def lineL (n : Nat) : List Int := (List.range n).map fun (k : Nat) => (k : Int)
def endOk (a b : Int) (x : Q4) : Bool := (a == x.c && b == x.d) || (b == x.c && a == x.d)
def endStep (L : List Int) (x : Q4) : Option (List Int) :=
  match L[x.b.toNat]?, L[x.b.toNat + 1]? with
  | some a, some b => if endOk a b x then some ((L.set x.b.toNat b).set (x.b.toNat + 1) a) else none
  | _, _ => none
def endsTo (xs : List Q4) (L : List Int) : Nat → Option (List Int)
  | 0 => some L
  | k + 1 => (endsTo xs L k).bind fun L' => match xs[k]? with
    | some x => endStep L' x
    | none => none
def endsOk (t : Int) (xs : List Q4) : Bool := (endsTo xs (lineL t.toNat) xs.length).isSome
theorem endsTo_none {xs : List Q4} {L : List Int} {k : Nat} (h : endsTo xs L k = none) : ∀ n, k ≤ n → endsTo xs L n = none := fun n hn => by
  induction n with
  | zero => obtain rfl : k = 0 := by omega
            exact h
  | succ n ih =>
    rcases Nat.lt_or_ge n k with e | e
    · obtain rfl : k = n + 1 := by omega
      exact h
    · show (endsTo xs L n).bind _ = none
      rw [ih e]; rfl
theorem endsTo_succ {xs : List Q4} {L L' : List Int} {k : Nat} {x : Q4} (h : endsTo xs L k = some L') (hx : xs[k]? = some x) : endsTo xs L (k + 1) = endStep L' x := by
  show (endsTo xs L k).bind _ = _
  rw [h, hx]; rfl
theorem endStep_get {L : List Int} {x : Q4} {i : Nat} {a b : Int} (hi : x.b.toNat = i) (ha : L[i]? = some a) (hb : L[i + 1]? = some b) : endStep L x = if endOk a b x then some ((L.set i b).set (i + 1) a) else none := by
  unfold endStep; rw [hi, ha, hb]
theorem lineL_len (n : Nat) : (lineL n).length = n := by simp [lineL]
theorem lineL_succ (n : Nat) : lineL (n + 1) = lineL n ++ [(n : Int)] := by simp [lineL, List.range_succ]
theorem own_has {w : World} {base n : Nat} {e : TypeId} {A : Option Addr} {c : Nat} {xs : List Value} (h : w.ownsRow base e 1 (.slice A n c) n xs) (hn : 0 < n) : ∃ g rest, A = some ⟨g, 0, none⟩ ∧ base ≤ g ∧ Has w g e (xs ++ rest) ∧ n ≤ c := by
  rcases h.2 with ⟨hv, h0⟩ | ⟨g, cap, cur, hv, hbg, hg, hnc, hcm, hcs, ht⟩
  · omega
  · injection hv with h1 h2 h3
    subst h3
    refine ⟨g, cur.toList.drop (n * 1), h1, hbg, ?_, hnc⟩
    unfold Has
    rw [hg, ← ht, List.take_append_drop]
theorem row_set2 (L : List Int) (rest : List Value) (b a : Int) {i : Nat} (h : i + 1 < L.length) : ((L.map vInt ++ rest).set i (.int .i64 b)).set (i + 1) (.int .i64 a) = ((L.set i b).set (i + 1) a).map vInt ++ rest := by
  rw [List.set_append_left _ _ (by simp; omega), List.set_append_left _ _ (by simp; omega), List.map_set, List.map_set]
/-- the error of a cloth -/
def ckE (t : Int) (xs ps : List Q4) : Int := if 48 < t ∨ 20000 < xs.length ∨ 6400 < ps.length then 3 else if numsOk t xs ps = false then 2 else if endsOk t xs = false then 6 else 0
theorem numsOk_parts {t : Int} {xs ps : List Q4} (h : numsOk t xs ps = true) : 2 ≤ t ∧ (∀ x ∈ xs, okC t x = true) ∧ (∀ x ∈ ps, okP t x = true) := by
  unfold numsOk at h
  simp only [Bool.and_eq_true, decide_eq_true_eq, List.all_eq_true] at h
  exact ⟨h.1.1, h.1.2, h.2⟩
end Go.Proofs.Ytaenafcecfdffaa
namespace Go.Proofs.Ytaenafcecfdffaa
open Go
/-! A region that draws, with a condition that holds till operation k has come up and another one from then on. -/
section
variable {P : Program} {ops : Array Oper} {Q : Exit → Act → World → Prop} {md : Region.Mode} {S : Bool → World → Prop} {k : Nat}
def wpAnyB (P : Program) (md : Region.Mode) (ops : Array Oper) (Q : Exit → Act → World → Prop) (S : Bool → World → Prop) (k : Nat) : Nat → Array Bool → Act → World → Prop
  | 0, listed, a, w => Region.ready md ops listed = [] ∧ Q .normal a w
  | fuel + 1, listed, a, w =>
    (Region.ready md ops listed = [] → Q .normal a w) ∧
    ∀ i ∈ Region.ready md ops listed, wpOp P ops Q i (fun a' w' => S ((listed.setIfInBounds i true).getD k false) w' ∧ wpAnyB P md ops Q S k fuel (listed.setIfInBounds i true) a' w') a w
theorem wpAny_of_B : ∀ (fuel : Nat) (listed : Array Bool) (a : Act) (w : World), wpAnyB P md ops Q S k fuel listed a w → wpAny P md ops Q fuel listed a w
  | 0, _, _, _, h => h
  | fuel + 1, _, _, _, h => ⟨h.1, fun i hi => wpOp_mono (fun a' w' h' => wpAny_of_B fuel _ a' w' h'.2) (h.2 i hi)⟩
theorem wpAnyB_first {i : Nat} {oi : Oper} {v : Value} {Sx : World → Prop} (hi : ops[i]? = some oi) (hsel : ∀ (j : Nat) (o : Oper) cs b, ops[j]? = some o → o.op ≠ .select cs b)
    (hQ : ∀ c a w, Q (.panic c) (a.put oi.dst v) w → Q (.panic c) a w) (hik : i ≠ k) (hf0 : ∀ w, S false w → Sx w) (hf1 : (∀ w, S true w → Sx w) ∨ Region.waitsFor md ops k i = true) :
    ∀ (fuel : Nat) (listed : Array Bool) (a : Act) (w : World),
      (∀ j oj, ops[j]? = some oj → j ≠ i → listed.getD j true = false → (∀ e ∈ oj.after, Region.binds md e = true → e.on ≠ i) → oi.apart ops oj = true) →
      i ∈ Region.ready md ops listed → (listed.getD k false = true → ∀ w, S true w → Sx w) → YieldsIf P ops Sx oi v a → S (listed.getD k false) w →
      wpAnyB P md ops Q S k fuel (listed.setIfInBounds i true) (a.put oi.dst v) w → wpAnyB P md ops Q S k (fuel + 1) listed a w := by
  have hx : ∀ (listed : Array Bool) (w : World), (listed.getD k false = true → ∀ w, S true w → Sx w) → S (listed.getD k false) w → Sx w := fun listed w h hS => by
    cases hb : listed.getD k false with
    | false => rw [hb] at hS; exact hf0 w hS
    | true => have := h hb; rw [hb] at hS; exact this w hS
  intro fuel
  induction fuel with
  | zero =>
    intro listed a w _ hr hl hy hS H
    refine ⟨fun h => (by rw [h] at hr; cases hr), fun j hj => ?_⟩
    by_cases hji : j = i
    · subst hji
      exact hy.wpOp hi (hx _ _ hl hS) ⟨by rw [getD_set_ne false hik]; exact hS, H⟩
    · have := ready_mono hj hji
      rw [H.1] at this
      cases this
  | succ fuel ih =>
    intro listed a w hfree hr hl hy hS H
    refine ⟨fun h => (by rw [h] at hr; cases hr), fun j hj => ?_⟩
    by_cases hji : j = i
    · subst hji
      exact hy.wpOp hi (hx _ _ hl hS) ⟨by rw [getD_set_ne false hik]; exact hS, H⟩
    · have h1 := H.2 j (ready_mono hj hji)
      obtain ⟨hjun, oj, hoj, hall⟩ := mem_ready.1 hj
      have hun := (mem_ready.1 hr).1
      have hnot : ∀ e ∈ oj.after, Region.binds md e = true → e.on ≠ i := fun e he hb heq => by
        have h1 := hall e he hb
        rw [heq, getD_both hun] at h1
        cases h1
      have h2 := wpOp_putIf hoj (hfree j oj hoj hji hjun hnot) (fun cs b => hsel i oi cs b hi) (fun cs b => hsel j oj cs b hoj) hQ hy h1
      have hfree' : ∀ t ot, ops[t]? = some ot → t ≠ i → (listed.setIfInBounds j true).getD t true = false →
          (∀ e ∈ ot.after, Region.binds md e = true → e.on ≠ i) → oi.apart ops ot = true := fun t ot ht hti hun hno => by
        refine hfree t ot ht hti ?_ hno
        by_cases hjt : j = t
        · subst hjt; exact hjun
        · rw [getD_set_ne true hjt] at hun; exact hun
      have hl' : (listed.setIfInBounds j true).getD k false = true → ∀ w, S true w → Sx w := fun h => by
        by_cases hjk : j = k
        · subst hjk
          rcases hf1 with hf1 | hf1
          · exact hf1
          · obtain ⟨o', ho', e, he, hb, hon⟩ := Region.waitsFor_spec hf1
            have : o' = oj := Option.some.inj (ho'.symm.trans hoj)
            subst this
            exact absurd hon (hnot e he hb)
        · rw [getD_set_ne false hjk] at h; exact hl h
      have hsw : ((listed.setIfInBounds i true).setIfInBounds j true).getD k false = (listed.setIfInBounds j true).getD k false := by
        rw [Array.setIfInBounds_comm _ _ (Ne.symm hji), getD_set_ne false hik]
      refine wpOp_mono (fun a' w' h3 => ?_) h2
      have hS3 : S ((listed.setIfInBounds j true).getD k false) w' := hsw ▸ h3.2.1
      refine ⟨hS3, ih (listed.setIfInBounds j true) a' w' hfree' (ready_mono hr (Ne.symm hji)) hl' h3.1 hS3 ?_⟩
      rw [Array.setIfInBounds_comm _ _ hji]
      exact h3.2.2
/-- take number i first -/
theorem wpAnyB_take {i : Nat} {oi : Oper} {v : Value} {fuel : Nat} {listed : Array Bool} {a : Act} {w : World} (Sx : World → Prop) (hi : ops[i]? = some oi)
    (hs : Region.noSelect ops = true) (hf : Region.free md ops listed i = true) (hr : (Region.ready md ops listed).contains i = true) (hk : listed.getD k false = false)
    (hik : (i == k) = false) (hf0 : ∀ w, S false w → Sx w) (hf1 : (∀ w, S true w → Sx w) ∨ Region.waitsFor md ops k i = true)
    (hQ : ∀ c a w, Q (.panic c) (a.put oi.dst v) w → Q (.panic c) a w) (hy : YieldsIf P ops Sx oi v a) (hS : S false w)
    (h : wpAnyB P md ops Q S k fuel (listed.setIfInBounds i true) (a.put oi.dst v) w) : wpAnyB P md ops Q S k (fuel + 1) listed a w :=
  wpAnyB_first hi (Region.noSelect_spec hs) hQ (by simpa using hik) hf0 hf1 fuel listed a w (Region.free_spec hi hf) (by simpa using hr) (fun h => by rw [hk] at h; cases h) hy (by rw [hk]; exact hS) h
/-- each of these comes up next -/
theorem wpAnyB_one {i : Nat} {oi : Oper} {fuel : Nat} {listed : Array Bool} {a : Act} {w : World} (b : Bool) (hi : ops[i]? = some oi) (hr : Region.ready md ops listed = [i]) (hb : (listed.setIfInBounds i true).getD k false = b)
    (h : ∀ K' : Act → World → Prop, Shut (∀ a w, S b w → wpAnyB P md ops Q S k fuel (listed.setIfInBounds i true) a w → K' a w) → if Region.wanted oi (yielded ops a.tmps) = true then Oper.wp P oi a w K' Q else K' (a.put oi.dst undef) w) : wpAnyB P md ops Q S k (fuel + 1) listed a w := by
  subst hb
  refine ⟨fun h0 => (by rw [hr] at h0; cases h0), fun j hj => ?_⟩
  rw [hr] at hj
  have : j = i := by simpa using hj
  subst this
  exact wpOp_step hi (fun K' hK => h K' (fun a w hS hW => hK a w ⟨hS, hW⟩))
theorem wpAnyB_two {i j : Nat} {oi oj : Oper} {fuel : Nat} {listed : Array Bool} {a : Act} {w : World} (b : Bool) (hi : ops[i]? = some oi) (hj : ops[j]? = some oj) (hr : Region.ready md ops listed = [i, j])
    (hb : (listed.setIfInBounds i true).getD k false = b) (hb' : (listed.setIfInBounds j true).getD k false = b)
    (h : ∀ K' : Act → World → Prop, Shut (∀ a w, S b w → wpAnyB P md ops Q S k fuel (listed.setIfInBounds i true) a w → K' a w) → if Region.wanted oi (yielded ops a.tmps) = true then Oper.wp P oi a w K' Q else K' (a.put oi.dst undef) w)
    (h' : ∀ K' : Act → World → Prop, Shut (∀ a w, S b w → wpAnyB P md ops Q S k fuel (listed.setIfInBounds j true) a w → K' a w) → if Region.wanted oj (yielded ops a.tmps) = true then Oper.wp P oj a w K' Q else K' (a.put oj.dst undef) w) : wpAnyB P md ops Q S k (fuel + 1) listed a w := by
  subst hb
  refine ⟨fun h0 => (by rw [hr] at h0; cases h0), fun t ht => ?_⟩
  rw [hr] at ht
  have : t = i ∨ t = j := by simpa using ht
  rcases this with rfl | rfl
  · exact wpOp_step hi (fun K' hK => h K' (fun a w hS hW => hK a w ⟨hS, hW⟩))
  · exact wpOp_step hj (fun K' hK => h' K' (fun a w hS hW => hK a w ⟨hb' ▸ hS, hW⟩))
theorem wpAnyB_done {listed : Array Bool} {a : Act} {w : World} (hr : Region.ready md ops listed = []) (h : Q .normal a w) : ∀ fuel, wpAnyB P md ops Q S k fuel listed a w
  | 0 => ⟨hr, h⟩
  | _ + 1 => ⟨fun _ => h, by rw [hr]; simp⟩
theorem wp_region_B {id : Nat} {a : Act} {w : World} (S : Bool → World → Prop) (k : Nat) (hm : P.follows .mixedOrders = true)
    (h : wpAnyB P .any ops Q S k ops.size (Array.replicate ops.size false) a w.drew) : (Code.region id ops true).wp P Q a w :=
  wp_region_any hm (wpAny_of_B _ _ _ _ h)
end
end Go.Proofs.Ytaenafcecfdffaa
/-
  Contract of cloth's swap: the line's two cells are exchanged, all else lies as it lay.
-/
namespace Go.Proofs.Ytaenafcecfdffaa
open Go.RowKit
/-- all blocks but one lie as they lay -/
structure KeepC (gL : Nat) (A B : World) : Prop where
  os : B.os = A.os
  tape : B.tape = A.tape
  output : B.output = A.output
  size : A.heap.size ≤ B.heap.size
  same : ∀ r, r < A.heap.size → r ≠ gL → B.heap[r]? = A.heap[r]?
theorem KeepC.trans {gL : Nat} {A B C : World} (h : KeepC gL A B) (k : KeepC gL B C) : KeepC gL A C :=
  ⟨k.os.trans h.os, k.tape.trans h.tape, k.output.trans h.output, Nat.le_trans h.size k.size, fun r hr hl => (k.same r (Nat.lt_of_lt_of_le hr h.size) hl).trans (h.same r hr hl)⟩
theorem KeepC.of_below {gL : Nat} {A B : World} (h : Below A.heap.size A B) : KeepC gL A B := ⟨h.os, h.tape, h.output, h.size, fun r hr _ => h.block r hr⟩
theorem KeepC.drew {gL : Nat} {A B : World} (h : KeepC gL A B) : KeepC gL A B.drew := ⟨h.os, h.tape, h.output, h.size, h.same⟩
theorem KeepC.set {g : Nat} (A : World) (i : Nat) (u : Value) : KeepC g A (A.setCell ⟨g, i, none⟩ u) := by
  have h := (Below.refl 0 A).setCell (p := ⟨g, i, none⟩) (Nat.zero_le _) u
  exact ⟨h.os, h.tape, h.output, h.size, fun r _ hl => Below.heap_setCell A _ u r hl⟩
theorem KeepsOthers.drew (W : World) : KeepsOthers W W.drew := ⟨Nat.le_refl _, fun _ _ h _ => h⟩
end Go.Proofs.Ytaenafcecfdffaa
/-
  A region that draws and holds a call of yield, at the wide fence: a condition S holds throughout; what only reads under S is taken first.
-/
namespace Go.Proofs.Ytaenafcecfdffaa
open Go
section
variable {P : Program} {ops : Array Oper} {Q : Exit → Act → World → Prop} {md : Region.Mode} {S : World → Prop} {n : Nat}
theorem opI_put {j : Nat} {oi oj : Oper} {v : Value} (hj : ops[j]? = some oj) (hap : oi.apart ops oj = true)
    (hsi : ∀ cs b, oi.op ≠ .select cs b) (hsj : ∀ cs b, oj.op ≠ .select cs b)
    (hQ : ∀ c a w, Q (.panic c) (a.put oi.dst v) w → Q (.panic c) a w) {K : Act → World → Prop} {a : Act} {w : World}
    (hy : YieldsIf P ops S oi v a) (h : wpOpIn Fence.wide n P ops Q j K (a.put oi.dst v) w) :
    wpOpIn Fence.wide n P ops Q j (fun a' w' => YieldsIf P ops S oi v a' ∧ K (a'.put oi.dst v) w') a w := by
  obtain ⟨h1, h2, h3⟩ := Oper.apart_spec hap
  have stay : ∀ u, YieldsIf P ops S oi v (a.put oj.dst u) := fun u => hy.of_same (execOp_put oi hsi a oj.dst u h3) (wanted_put oi a oj.dst u h3)
  have fin : ∀ u w', K ((a.put oi.dst v).put oj.dst u) w' → YieldsIf P ops S oi v (a.put oj.dst u) ∧ K ((a.put oj.dst u).put oi.dst v) w' := fun u w' hk => ⟨stay u, by rw [← Act.put_comm a v u h2]; exact hk⟩
  unfold wpOpIn at h ⊢
  simp only [hj] at h ⊢
  rw [wanted_put oj a oi.dst v h1] at h
  by_cases hw : Region.wanted oj (yielded ops a.tmps) = true
  · rw [if_pos hw] at h ⊢
    refine ⟨fun _ _ => trivial, ?_⟩
    have h' := h.2
    rw [show Fence.wide.round = none from rfl, Oper.semAt_none] at h' ⊢
    rw [execOp_put oj hsj a oi.dst v h1] at h'
    cases hr : (execOp a.eval oj).run P w with
    | ok x w' =>
      rw [hr] at h'
      cases x with
      | value u => exact fin _ _ h'
      | skip => exact fin _ _ h'
      | defer dd =>
        have st : YieldsIf P ops S oi v ({ a with defers := dd :: a.defers }.put oj.dst undef) :=
          (hy.of_same (a' := { a with defers := dd :: a.defers }) rfl rfl).of_same (execOp_put oi hsi _ oj.dst undef h3) (wanted_put oi _ oj.dst undef h3)
        refine ⟨st, ?_⟩
        rw [← Act.put_comm _ v undef h2, ← Act.put_defers]
        exact h'
      | enter f args =>
        refine ⟨h'.1, CallsIn.mono h'.2 fun e w'' he => ?_⟩
        cases e with
        | returned u => exact fin _ _ he
        | panicked c => exact hQ _ _ _ he
        | outgrown => exact he
      | row row args => exact ⟨h'.1, RowsIn.mono h'.2 fun u w'' he => fin _ _ he⟩
      | round l f tmps assign body =>
        refine ⟨h'.1, RoundIn.mono h'.2 fun e w'' he => ?_⟩
        cases e with
        | returned u => exact fin _ _ he
        | panicked c => exact hQ _ _ _ he
        | outgrown => exact he
      | _ => first | exact h' | exact h'.elim
    | halt x w' =>
      rw [hr] at h'
      cases x with
      | panic u => exact hQ _ _ _ h'
      | _ => first | exact h' | exact h'.elim
  · rw [if_neg hw] at h ⊢
    exact ⟨fun _ _ => trivial, fin _ _ h.2⟩
theorem opI_yields {i : Nat} {o : Oper} {v : Value} {a : Act} (hi : ops[i]? = some o) (hy : YieldsIf P ops S o v a)
    {K : Act → World → Prop} {w : World} (hS : S w) (h : K (a.put o.dst v) w) : wpOpIn Fence.wide n P ops Q i K a w := by
  unfold Go.wpOpIn
  simp only [hi]
  rcases hy with ⟨hw, hv⟩ | ⟨hw, rfl⟩
  · rw [if_pos hw]
    refine ⟨fun _ _ => trivial, ?_⟩
    rw [show Fence.wide.round = none from rfl, Oper.semAt_none, hv w hS]
    exact h
  · rw [if_neg (by rw [hw]; simp)]
    exact ⟨fun _ _ => trivial, h⟩
def anyI (n : Nat) (P : Program) (md : Region.Mode) (ops : Array Oper) (Q : Exit → Act → World → Prop) (S : World → Prop) : Nat → Array Bool → Act → World → Prop
  | 0, listed, a, w => Region.ready md ops listed = [] ∧ Q .normal a w
  | fuel + 1, listed, a, w =>
    (Region.ready md ops listed = [] → Q .normal a w) ∧
    ∀ i ∈ Region.ready md ops listed, wpOpIn Fence.wide n P ops Q i (fun a' w' => S w' ∧ anyI n P md ops Q S fuel (listed.setIfInBounds i true) a' w') a w
theorem anyIn_of_I : ∀ (fuel : Nat) (listed : Array Bool) (a : Act) (w : World), anyI n P md ops Q S fuel listed a w → wpAnyIn Fence.wide n P md ops Q fuel listed a w
  | 0, _, _, _, h => h
  | fuel + 1, _, _, _, h => ⟨h.1, fun i hi => wpOpIn_mono (fun a' w' h' => anyIn_of_I fuel _ a' w' h'.2) (h.2 i hi)⟩
theorem anyI_first {i : Nat} {oi : Oper} {v : Value} (hi : ops[i]? = some oi) (hsel : ∀ (j : Nat) (o : Oper) cs b, ops[j]? = some o → o.op ≠ .select cs b)
    (hQ : ∀ c a w, Q (.panic c) (a.put oi.dst v) w → Q (.panic c) a w) :
    ∀ (fuel : Nat) (listed : Array Bool) (a : Act) (w : World),
      (∀ j oj, ops[j]? = some oj → j ≠ i → listed.getD j true = false → (∀ e ∈ oj.after, Region.binds md e = true → e.on ≠ i) → oi.apart ops oj = true) →
      i ∈ Region.ready md ops listed → YieldsIf P ops S oi v a → S w →
      anyI n P md ops Q S fuel (listed.setIfInBounds i true) (a.put oi.dst v) w → anyI n P md ops Q S (fuel + 1) listed a w := by
  intro fuel
  induction fuel with
  | zero =>
    intro listed a w _ hr hy hS H
    refine ⟨fun h => (by rw [h] at hr; cases hr), fun j hj => ?_⟩
    by_cases hji : j = i
    · subst hji
      exact opI_yields hi hy hS ⟨hS, H⟩
    · have := ready_mono hj hji
      rw [H.1] at this
      cases this
  | succ fuel ih =>
    intro listed a w hfree hr hy hS H
    refine ⟨fun h => (by rw [h] at hr; cases hr), fun j hj => ?_⟩
    by_cases hji : j = i
    · subst hji
      exact opI_yields hi hy hS ⟨hS, H⟩
    · have h1 := H.2 j (ready_mono hj hji)
      obtain ⟨hjun, oj, hoj, hall⟩ := mem_ready.1 hj
      have hun := (mem_ready.1 hr).1
      have hnot : ∀ e ∈ oj.after, Region.binds md e = true → e.on ≠ i := fun e he hb heq => by
        have h1 := hall e he hb
        rw [heq, getD_both hun] at h1
        cases h1
      have h2 := opI_put hoj (hfree j oj hoj hji hjun hnot) (fun cs b => hsel i oi cs b hi) (fun cs b => hsel j oj cs b hoj) hQ hy h1
      have hfree' : ∀ t ot, ops[t]? = some ot → t ≠ i → (listed.setIfInBounds j true).getD t true = false →
          (∀ e ∈ ot.after, Region.binds md e = true → e.on ≠ i) → oi.apart ops ot = true := fun t ot ht hti hun hno => by
        refine hfree t ot ht hti ?_ hno
        by_cases hjt : j = t
        · subst hjt; exact hjun
        · rw [getD_set_ne true hjt] at hun; exact hun
      refine wpOpIn_mono (fun a' w' h3 => ?_) h2
      refine ⟨h3.2.1, ih (listed.setIfInBounds j true) a' w' hfree' (ready_mono hr (Ne.symm hji)) h3.1 h3.2.1 ?_⟩
      rw [Array.setIfInBounds_comm _ _ hji]
      exact h3.2.2
theorem anyI_take {i : Nat} {oi : Oper} {v : Value} {fuel : Nat} {listed : Array Bool} {a : Act} {w : World} (hi : ops[i]? = some oi)
    (hs : Region.noSelect ops = true) (hf : Region.free md ops listed i = true) (hr : (Region.ready md ops listed).contains i = true)
    (hQ : ∀ c a w, Q (.panic c) (a.put oi.dst v) w → Q (.panic c) a w) (hy : YieldsIf P ops S oi v a) (hS : S w)
    (h : anyI n P md ops Q S fuel (listed.setIfInBounds i true) (a.put oi.dst v) w) : anyI n P md ops Q S (fuel + 1) listed a w :=
  anyI_first hi (Region.noSelect_spec hs) hQ fuel listed a w (Region.free_spec hi hf) (by simpa using hr) hy hS h
theorem anyI_one {i : Nat} {oi : Oper} {fuel : Nat} {listed : Array Bool} {a : Act} {w : World} (hi : ops[i]? = some oi) (hr : Region.ready md ops listed = [i])
    (h : wpOpIn Fence.wide n P ops Q i (fun a' w' => S w' ∧ anyI n P md ops Q S fuel (listed.setIfInBounds i true) a' w') a w) : anyI n P md ops Q S (fuel + 1) listed a w := by
  refine ⟨fun h0 => (by rw [hr] at h0; cases h0), fun j hj => ?_⟩
  rw [hr] at hj
  have : j = i := by simpa using hj
  subst this
  exact h
theorem anyI_done {listed : Array Bool} {a : Act} {w : World} (hr : Region.ready md ops listed = []) (h : Q .normal a w) : ∀ fuel, anyI n P md ops Q S fuel listed a w
  | 0 => ⟨hr, h⟩
  | _ + 1 => ⟨fun _ => h, by rw [hr]; simp⟩
theorem wp_region_I {id : Nat} {a : Act} {w : World} (S : World → Prop) (hm : P.follows .mixedOrders = true)
    (h : anyI 0 P .any ops Q S ops.size (Array.replicate ops.size false) a w.drew) : (Code.region id ops true).wp P Q a w :=
  wpIn_wide.1 (wpIn_region_any (F := Fence.wide) (n := 0) hm (anyIn_of_I _ _ _ _ h))
end
end Go.Proofs.Ytaenafcecfdffaa
/-
  The iterator cloth.crossings: each crossing with the threads in its places before it; the line follows.
-/
namespace Go.Proofs.Ytaenafcecfdffaa
open Go.RowKit
theorem roundI_any {P : Program} {l : Nat} {fn : FuncId} {tmps : Array Value} {assign body : Code} {w : World} {R : Ending → World → Prop} {n m : Nat} (h : RoundIn Fence.wide n P l fn tmps assign body w R) : RoundIn Fence.wide m P l fn tmps assign body w R :=
  ⟨h.1, fun c cs _ => h.2 c cs (fun d hd => by cases hd)⟩
theorem opI_round {P : Program} {ops : Array Oper} {Q : Exit → Act → World → Prop} {n i l : Nat} {o : Oper} {a : Act} {w : World} {K : Act → World → Prop} {fn : FuncId} {tmps : Array Value} {assign body : Code} {R : Ending → World → Prop}
    (hi : ops[i]? = some o) (hw : Region.wanted o (yielded ops a.tmps) = true) (hx : (execOp a.eval o).run P w = .ok (.round l fn tmps assign body) w)
    (hR : RoundIn Fence.wide 0 P l fn tmps assign body w R) (h : ∀ e w', R e w' → ∃ u, e = .returned u ∧ K (a.put o.dst u) w') : wpOpIn Fence.wide n P ops Q i K a w := by
  unfold wpOpIn
  simp only [hi]
  rw [if_pos hw]
  refine ⟨fun _ _ => trivial, ?_⟩
  rw [show Fence.wide.round = none from rfl, Oper.semAt_none, hx]
  refine ⟨fun h => by simp [Fence.wide] at h, RoundIn.mono (roundI_any hR) fun e w' he => ?_⟩
  obtain ⟨u, rfl, hk⟩ := h e w' he
  exact hk
def swapL (L : List Int) (x : Q4) : List Int := (L.set x.b.toNat (L.getD (x.b.toNat + 1) 0)).set (x.b.toNat + 1) (L.getD x.b.toNat 0)
/-- the line behind the first k crossings -/
def lineTo (xs : List Q4) (L : List Int) : Nat → List Int
  | 0 => L
  | k + 1 => match xs[k]? with
    | some x => swapL (lineTo xs L k) x
    | none => lineTo xs L k
abbrev Met := Q4 × Int × Int
def met (xs : List Q4) (L : List Int) (j : Nat) : Met := (xs.getD j ⟨0, 0, 0, 0⟩, (lineTo xs L j).getD (xs.getD j ⟨0, 0, 0, 0⟩).b.toNat 0, (lineTo xs L j).getD ((xs.getD j ⟨0, 0, 0, 0⟩).b.toNat + 1) 0)
def came (xs : List Q4) (L : List Int) (k : Nat) : List Met := (List.range k).map (met xs L)
def encM (p : Met) : Array Value := #[.agg #[.int .i64 p.1.a, .int .i64 p.1.b, .int .i64 p.1.c, .int .i64 p.1.d], .agg #[.int .i64 p.2.1, .int .i64 p.2.2]]
theorem cell_same {w w' : World} {a : Addr} (h : w'.heap[a.block]? = w.heap[a.block]?) : w'.cell? a = w.cell? a := by unfold World.cell?; rw [h]
theorem lineTo_len (xs : List Q4) (L : List Int) (k : Nat) : (lineTo xs L k).length = L.length := by
  induction k with
  | zero => rfl
  | succ k ih =>
    unfold lineTo
    split
    · unfold swapL; rw [List.length_set, List.length_set, ih]
    · exact ih
theorem came_succ (xs : List Q4) (L : List Int) (k : Nat) : came xs L (k + 1) = came xs L k ++ [met xs L k] := by simp [came, List.range_succ]
theorem came_len (xs : List Q4) (L : List Int) (k : Nat) : (came xs L k).length = k := by simp [came]
end Go.Proofs.Ytaenafcecfdffaa
/-
  Contracts of cloth: in, begun, crossings; what the line before each crossing says of the document's ends.
-/
namespace Go.Proofs.Ytaenafcecfdffaa
open Go.RowKit
theorem lineL_set (k : Nat) (h : k < 48) : ((lineL k).map vInt ++ List.replicate (48 - k) (vInt 0)).set k (.int .i64 (k : Int)) = (lineL (k + 1)).map vInt ++ List.replicate (48 - (k + 1)) (vInt 0) := by
  have e : 48 - k = (48 - (k + 1)) + 1 := by omega
  rw [e, List.replicate_succ, List.set_append_right _ _ (by simp [lineL_len]), lineL_succ]
  simp [lineL_len]
theorem lineL_at (k : Nat) (h : k < 48) : ((lineL k).map vInt ++ List.replicate (48 - k) (vInt 0))[k]? = some (vInt 0) := by
  have e : 48 - k = (48 - (k + 1)) + 1 := by omega
  rw [e, List.replicate_succ, List.getElem?_append_right (by simp [lineL_len])]
  simp [lineL_len]
theorem Has.new2 {w : World} {o : Obj} {arr : Array Value} {t : TypeId} {cs : List Value} (h : arr = cs.toArray) : Has ((w.alloc o).alloc (.cells arr t)) (w.heap.size + 1) t cs := by
  have := Has.new (w := w.alloc o) (t := t) h
  rwa [World.size_alloc] at this
theorem Has.setRow {w : World} {g : Nat} {t : TypeId} {cs : List Value} (h : Has w g t cs) (ds : List Value) : Has (w.setRow g ds.toArray) g t ds := setRow_heap w g cs.toArray ds.toArray t _ h
theorem below_setRow {B : Nat} {a w : World} (h : Below B a w) {g : Nat} (hg : B ≤ g) (cs : Array Value) : Below B a (w.setRow g cs) :=
  ⟨h.os, h.tape, h.output, by simp; exact h.size, fun i hi => (setRow_other w g i cs (by omega)).trans (h.block i hi)⟩
theorem wpList_store_has {P : Program} {ops : Array Oper} {rest : List Oper} {o : Oper} {a : Act} {w : World} {Q : Exit → Act → World → Prop} (hgd : o.guard = none) (ty : TypeId) (x y : Operand) (ho : o.op = .store ty x y)
    (g : Nat) (cs : List Value) (hx : a.eval x = .pointer (some ⟨g, 0, none⟩)) (hy : a.eval y = .agg cs.toArray)
    (t : TypeId) (old : List Value) (hg : Has w g t old) (hi : (P.info? ty).map (·.size) = some cs.length)
    (hold : old.length = cs.length) (h1 : cs.all (·.oneCell') = true)
    (h : ∀ w2, Has w2 g t cs → But g w w2 → wpList P ops Q rest (a.put o.dst undef) w2) : wpList P ops Q (o :: rest) a w :=
  wpList_store_row hgd ty x y ho g cs.toArray hx hy t old.toArray hg (by simpa using hi) (by simpa using hold) (by simpa using h1) (h _ (hg.setRow cs) ⟨rfl, rfl, rfl, by simp, fun k _ hne => setRow_other w g k cs.toArray (fun e => hne (by rw [e]))⟩)
end Go.Proofs.Ytaenafcecfdffaa
/-
  Contracts: stitches.twists, letter by letter.
-/
namespace Go.Proofs.Ytaenafcecfdffaa
open Go.RowKit
/-- how often each place is crossed by a letter -/
def twV (c : UInt8) : List Int :=
  if c = 67 then [0, 1, 0]
  else if c = 84 then [-1, 0, -1]
  else if c = 76 then [-1, 0, 0]
  else if c = 82 then [0, 0, -1]
  else if c = 80 then [0, 0, 0]
  else if c = 99 then [0, -1, 0]
  else if c = 116 then [1, 0, 1]
  else if c = 108 then [1, 0, 0]
  else if c = 114 then [0, 0, 1]
  else [0, 0, 0]
set_option maxRecDepth 100000 in
theorem tw67 (w : World) : Calls Try.prog 82 #[.int .u8 67] w fun e w' => e = .returned (.agg #[.int .i64 0, .int .i64 1, .int .i64 0]) ∧ Below w.heap.size w w' := by
  have b0 : bits BinOp.or IntKind.u8 67 32 = 99 := by decide
  go_enter Try.func82, Try.ntmps82
  go_wp2
  refine bodyPost_ret (v := .agg #[.int .i64 0, .int .i64 1, .int .i64 0]) (results_cell_row rfl _ _ w.heap.size 139 _ (0, 0) (.array 3 3) rfl ((Has.new rfl).alloc _) (by kernel_rfl) rfl (by kernel_rfl)) rfl ?_
  exact ⟨rfl, by go_grown⟩
set_option maxRecDepth 100000 in
theorem tw84 (w : World) : Calls Try.prog 82 #[.int .u8 84] w fun e w' => e = .returned (.agg #[.int .i64 (-1), .int .i64 0, .int .i64 (-1)]) ∧ Below w.heap.size w w' := by
  have b0 : bits BinOp.or IntKind.u8 84 32 = 116 := by decide
  go_enter Try.func82, Try.ntmps82
  go_wp2
  refine bodyPost_ret (v := .agg #[.int .i64 (-1), .int .i64 0, .int .i64 (-1)]) (results_cell_row rfl _ _ w.heap.size 139 _ (0, 0) (.array 3 3) rfl ((Has.new rfl).alloc _) (by kernel_rfl) rfl (by kernel_rfl)) rfl ?_
  exact ⟨rfl, by go_grown⟩
set_option maxRecDepth 100000 in
theorem tw76 (w : World) : Calls Try.prog 82 #[.int .u8 76] w fun e w' => e = .returned (.agg #[.int .i64 (-1), .int .i64 0, .int .i64 0]) ∧ Below w.heap.size w w' := by
  have b0 : bits BinOp.or IntKind.u8 76 32 = 108 := by decide
  go_enter Try.func82, Try.ntmps82
  go_wp2
  refine bodyPost_ret (v := .agg #[.int .i64 (-1), .int .i64 0, .int .i64 0]) (results_cell_row rfl _ _ w.heap.size 139 _ (0, 0) (.array 3 3) rfl ((Has.new rfl).alloc _) (by kernel_rfl) rfl (by kernel_rfl)) rfl ?_
  exact ⟨rfl, by go_grown⟩
set_option maxRecDepth 100000 in
theorem tw82 (w : World) : Calls Try.prog 82 #[.int .u8 82] w fun e w' => e = .returned (.agg #[.int .i64 0, .int .i64 0, .int .i64 (-1)]) ∧ Below w.heap.size w w' := by
  have b0 : bits BinOp.or IntKind.u8 82 32 = 114 := by decide
  go_enter Try.func82, Try.ntmps82
  go_wp2
  refine bodyPost_ret (v := .agg #[.int .i64 0, .int .i64 0, .int .i64 (-1)]) (results_cell_row rfl _ _ w.heap.size 139 _ (0, 0) (.array 3 3) rfl ((Has.new rfl).alloc _) (by kernel_rfl) rfl (by kernel_rfl)) rfl ?_
  exact ⟨rfl, by go_grown⟩
set_option maxRecDepth 100000 in
theorem tw80 (w : World) : Calls Try.prog 82 #[.int .u8 80] w fun e w' => e = .returned (.agg #[.int .i64 0, .int .i64 0, .int .i64 0]) ∧ Below w.heap.size w w' := by
  have b0 : bits BinOp.or IntKind.u8 80 32 = 112 := by decide
  go_enter Try.func82, Try.ntmps82
  go_wp2
  refine bodyPost_ret (v := .agg #[.int .i64 0, .int .i64 0, .int .i64 0]) (results_cell_row rfl _ _ w.heap.size 139 _ (0, 0) (.array 3 3) rfl ((Has.new rfl).alloc _) (by kernel_rfl) rfl (by kernel_rfl)) rfl ?_
  exact ⟨rfl, by go_grown⟩
set_option maxRecDepth 100000 in
theorem tw99 (w : World) : Calls Try.prog 82 #[.int .u8 99] w fun e w' => e = .returned (.agg #[.int .i64 0, .int .i64 (-1), .int .i64 0]) ∧ Below w.heap.size w w' := by
  have b0 : bits BinOp.or IntKind.u8 99 32 = 99 := by decide
  go_enter Try.func82, Try.ntmps82
  go_wp2
  refine bodyPost_ret (v := .agg #[.int .i64 0, .int .i64 (-1), .int .i64 0]) (results_cell_row rfl _ _ w.heap.size 139 _ (0, 0) (.array 3 3) rfl ((Has.new rfl).alloc _) (by kernel_rfl) rfl (by kernel_rfl)) rfl ?_
  exact ⟨rfl, by go_grown⟩
set_option maxRecDepth 100000 in
theorem tw116 (w : World) : Calls Try.prog 82 #[.int .u8 116] w fun e w' => e = .returned (.agg #[.int .i64 1, .int .i64 0, .int .i64 1]) ∧ Below w.heap.size w w' := by
  have b0 : bits BinOp.or IntKind.u8 116 32 = 116 := by decide
  go_enter Try.func82, Try.ntmps82
  go_wp2
  refine bodyPost_ret (v := .agg #[.int .i64 1, .int .i64 0, .int .i64 1]) (results_cell_row rfl _ _ w.heap.size 139 _ (0, 0) (.array 3 3) rfl ((Has.new rfl).alloc _) (by kernel_rfl) rfl (by kernel_rfl)) rfl ?_
  exact ⟨rfl, by go_grown⟩
set_option maxRecDepth 100000 in
theorem tw108 (w : World) : Calls Try.prog 82 #[.int .u8 108] w fun e w' => e = .returned (.agg #[.int .i64 1, .int .i64 0, .int .i64 0]) ∧ Below w.heap.size w w' := by
  have b0 : bits BinOp.or IntKind.u8 108 32 = 108 := by decide
  go_enter Try.func82, Try.ntmps82
  go_wp2
  refine bodyPost_ret (v := .agg #[.int .i64 1, .int .i64 0, .int .i64 0]) (results_cell_row rfl _ _ w.heap.size 139 _ (0, 0) (.array 3 3) rfl ((Has.new rfl).alloc _) (by kernel_rfl) rfl (by kernel_rfl)) rfl ?_
  exact ⟨rfl, by go_grown⟩
set_option maxRecDepth 100000 in
theorem tw114 (w : World) : Calls Try.prog 82 #[.int .u8 114] w fun e w' => e = .returned (.agg #[.int .i64 0, .int .i64 0, .int .i64 1]) ∧ Below w.heap.size w w' := by
  have b0 : bits BinOp.or IntKind.u8 114 32 = 114 := by decide
  go_enter Try.func82, Try.ntmps82
  go_wp2
  refine bodyPost_ret (v := .agg #[.int .i64 0, .int .i64 0, .int .i64 1]) (results_cell_row rfl _ _ w.heap.size 139 _ (0, 0) (.array 3 3) rfl ((Has.new rfl).alloc _) (by kernel_rfl) rfl (by kernel_rfl)) rfl ?_
  exact ⟨rfl, by go_grown⟩
theorem let_cases {c : UInt8} (h : isLet c = true) : c = 67 ∨ c = 84 ∨ c = 76 ∨ c = 82 ∨ c = 80 ∨ c = 99 ∨ c = 116 ∨ c = 108 ∨ c = 114 := by
  unfold isLet letters at h
  simp at h
  exact h
theorem twV_len (c : UInt8) : (twV c).length = 3 := by
  unfold twV
  repeat' split
  all_goals rfl
theorem twists72 (c : UInt8) (h : isLet c = true) (w : World) : Calls Try.prog 82 #[.int .u8 c.toNat] w fun e w' => e = .returned (.agg ((twV c).map vInt).toArray) ∧ Below w.heap.size w w' := by
  rcases let_cases h with rfl | rfl | rfl | rfl | rfl | rfl | rfl | rfl | rfl
  · exact tw67 w
  · exact tw84 w
  · exact tw76 w
  · exact tw82 w
  · exact tw80 w
  · exact tw99 w
  · exact tw116 w
  · exact tw108 w
  · exact tw114 w
end Go.Proofs.Ytaenafcecfdffaa
/-
  Plain law: the line of 48 before each crossing says the same as the document's ends over the cloth's own threads.
-/
namespace Go.Proofs.Ytaenafcecfdffaa
open Go.RowKit
/-- a crossing came with the two threads that it names -/
def metOk (p : Met) : Bool := endOk p.2.1 p.2.2 p.1
theorem lineL_take (T : Nat) (h : T ≤ 48) : (lineL 48).take T = lineL T := by
  unfold lineL
  rw [← List.map_take, List.take_range]
  rw [Nat.min_eq_left h]
theorem lineTo_succ {xs : List Q4} {L : List Int} {k : Nat} {x : Q4} (h : xs[k]? = some x) : lineTo xs L (k + 1) = swapL (lineTo xs L k) x := by
  show (match xs[k]? with | some x => swapL (lineTo xs L k) x | none => lineTo xs L k) = _
  rw [h]
theorem endStep_line {L : List Int} {T : Nat} {x : Q4} (hT : T ≤ L.length) (hx : x.b.toNat + 1 < T) : endStep (L.take T) x = if endOk (L.getD x.b.toNat 0) (L.getD (x.b.toNat + 1) 0) x then some ((swapL L x).take T) else none := by
  have h0 : x.b.toNat < L.length := by omega
  have h1 : x.b.toNat + 1 < L.length := by omega
  have e0 : (L.take T)[x.b.toNat]? = some (L.getD x.b.toNat 0) := by
    rw [List.getElem?_take_of_lt (by omega), List.getD_eq_getElem?_getD, List.getElem?_eq_getElem h0]; rfl
  have e1 : (L.take T)[x.b.toNat + 1]? = some (L.getD (x.b.toNat + 1) 0) := by
    rw [List.getElem?_take_of_lt (by omega), List.getD_eq_getElem?_getD, List.getElem?_eq_getElem h1]; rfl
  rw [endStep_get rfl e0 e1]
  unfold swapL
  rw [List.take_set, List.take_set]
theorem met_get {xs : List Q4} {L : List Int} {k : Nat} {x : Q4} (h : xs[k]? = some x) : met xs L k = (x, (lineTo xs L k).getD x.b.toNat 0, (lineTo xs L k).getD (x.b.toNat + 1) 0) := by
  unfold met
  rw [List.getD_eq_getElem?_getD, h]; rfl
theorem ends_came (xs : List Q4) (T : Nat) (hT : T ≤ 48) (hx : ∀ x ∈ xs, 0 ≤ x.b ∧ x.b ≤ (T : Int) - 2) : ∀ k, k ≤ xs.length → (∀ p ∈ came xs (lineL 48) k, metOk p = true) → endsTo xs (lineL T) k = some ((lineTo xs (lineL 48) k).take T)
  | 0, _, _ => by show some _ = some _; rw [lineTo, lineL_take T hT]
  | k + 1, hk, h => by
    obtain ⟨x, hxk⟩ := get_of_lt (l := xs) (k := k) (by omega)
    have ih := ends_came xs T hT hx k (by omega) (fun p hp => h p (by rw [came_succ]; exact List.mem_append_left _ hp))
    have hb := hx x (mem_of_get hxk)
    have hm := h (met xs (lineL 48) k) (by rw [came_succ]; simp)
    rw [met_get hxk] at hm
    rw [endsTo_succ ih hxk, lineTo_succ hxk, endStep_line (by rw [lineTo_len, lineL_len]; exact hT) (by omega)]
    exact if_pos hm
theorem ends_ok {t : Int} {xs : List Q4} (h0 : 2 ≤ t) (ht : t ≤ 48) (hx : ∀ x ∈ xs, okC t x = true) (h : ∀ p ∈ came xs (lineL 48) xs.length, metOk p = true) : endsOk t xs = true := by
  unfold endsOk
  rw [ends_came xs t.toNat (by omega) (fun x hm => by have := hx x hm; unfold okC at this; simp at this; omega) _ (Nat.le_refl _) h]; rfl
theorem ends_bad {t : Int} {xs : List Q4} (h0 : 2 ≤ t) (ht : t ≤ 48) (hx : ∀ x ∈ xs, okC t x = true) {k : Nat} (hk : k ≤ xs.length) {ini : List Met} {last : Met} (hc : came xs (lineL 48) k = ini ++ [last]) (hi : ∀ p ∈ ini, metOk p = true) (hl : metOk last = false) : endsOk t xs = false := by
  obtain ⟨j, rfl⟩ : ∃ j, k = j + 1 := by
    cases k with
    | zero => simp [came] at hc
    | succ j => exact ⟨j, rfl⟩
  rw [came_succ] at hc
  obtain ⟨rfl, e5⟩ := List.append_inj' hc rfl
  obtain rfl : met xs (lineL 48) j = last := by simpa using e5
  obtain ⟨x, hxk⟩ := get_of_lt (l := xs) (k := j) (by omega)
  have hr : ∀ x ∈ xs, 0 ≤ x.b ∧ x.b ≤ (t.toNat : Int) - 2 := fun x hm => by have := hx x hm; unfold okC at this; simp at this; omega
  have ih := ends_came xs t.toNat (by omega) hr j (by omega) hi
  have hb := hr x (mem_of_get hxk)
  rw [met_get hxk] at hl
  have hn : endsTo xs (lineL t.toNat) (j + 1) = none := by
    rw [endsTo_succ ih hxk, endStep_line (by rw [lineTo_len, lineL_len]; omega) (by omega)]
    have hl2 : endOk ((lineTo xs (lineL 48) j).getD x.b.toNat 0) ((lineTo xs (lineL 48) j).getD (x.b.toNat + 1) 0) x = false := hl
    exact if_neg (by rw [hl2]; decide)
  unfold endsOk
  rw [endsTo_none hn _ hk]; rfl
theorem ownFrom_has {β : Type} {B g : Nat} {t : TypeId} {cs : List Value} (hg : g < B) : OwnFrom B (fun (_ : β) W => Has W g t cs) := fun _ _ _ _ hs hw hr => hs.same (hw.block g hs.lt (fun e => by have := (hr g e.symm).1; omega))
theorem postM_cell {P : Program} {fn : Func} {R : Ending → World → Prop} {tmps : Array Value} {w : World} {p : Tmp} {ty : TypeId} {g : Nat} {t : TypeId} {k : IntKind} {x : Int} (h : Has w g t [.int k x]) (hres : fn.results = #[.cell p ty])
    (hp : tmps.getD p undef = .pointer (some ⟨g, 0, none⟩)) (hu : ∀ w, (isAgg ty).run P w = .ok false w) (hR : R (.returned (.int k x)) w) : LeavesIn Fence.wide 0 P fn tmps R [] .returning w := by
  refine ⟨.int k x, ?_, hR⟩
  have hc := h.cell 0
  have hp' : tmps[p]?.getD undef = .pointer (some ⟨g, 0, none⟩) := by simpa using hp
  simp at hc
  simp [results, hres, hp', asAddr, loadVar, Sem.run_bind, hu, Result.andThen, go_sem, hc]
theorem below_put {B : Nat} {a w : World} (h : Below B a w) {D : Nat} (hD : B ≤ D) (o : Obj) : Below B a (w.putObj D o) :=
  ⟨h.os, h.tape, h.output, by simpa [World.putObj] using h.size, fun r hr => (World.putObj_heap_other (by omega)).trans (h.block r hr)⟩
theorem postM_ret {P : Program} {fn : Func} {R : Ending → World → Prop} {a : Act} {w : World} {p : Tmp} {ty : TypeId} {g : Nat} {t : TypeId} {k : IntKind} {x : Int} (h : Has w g t [.int k x]) (hres : fn.results = #[.cell p ty])
    (hp : a.tmps.getD p undef = .pointer (some ⟨g, 0, none⟩)) (hu : ∀ w, (isAgg ty).run P w = .ok false w) (hd : a.defers = []) (hR : R (.returned (.int k x)) w) : bodyPostM Fence.wide 0 P fn R .ret a w := by
  show LeavesInM Fence.wide 0 P fn a.tmps R a.defers .returning w
  rw [hd]
  exact postM_cell h hres hp hu hR
theorem postM_mark {P : Program} {fn : Func} {R : Ending → World → Prop} {a : Act} {w : World} {p : Tmp} {ty : TypeId} {g D : Nat} {t : TypeId} {k : IntKind} {x : Int} (h : Has w g t [.int k x]) (hres : fn.results = #[.cell p ty])
    (hp : a.tmps.getD p undef = .pointer (some ⟨g, 0, none⟩)) (hu : ∀ w, (isAgg ty).run P w = .ok false w) (hd : a.defers = [{ target := .collected D, args := #[] }]) (hD : w.heap[D]? = some (.deferred (some [])))
    (hR : R (.returned (.int k x)) (w.putObj D (.deferred none))) : bodyPostM Fence.wide 0 P fn R .ret a w := by
  show LeavesInM Fence.wide 0 P fn a.tmps R a.defers .returning w
  rw [hd]
  have hne : g ≠ D := by
    intro e; subst e; unfold Has at h; rw [h] at hD; cases hD
  refine ⟨by simp, .inl ⟨_, _, rfl, run_takeDeferred hD, ?_⟩⟩
  exact postM_cell (h.same (World.putObj_heap_other hne)) hres hp hu hR
end Go.Proofs.Ytaenafcecfdffaa
/-
  Contract of cloth.Check: the document's error.
-/
namespace Go.Proofs.Ytaenafcecfdffaa
open Go.RowKit
attribute [local go_sem] Oper.semAt_some
theorem next_all {g : Bool} {p : Q4 → Bool} {xs : List Q4} {k : Nat} {x : Q4} {gb r : Bool} (hG : (g && (xs.take k).all p) = gb) (hx : xs[k]? = some x) (hr : p x = r) : (g && (xs.take (k + 1)).all p) = (gb && r) := by
  rw [all_step hx, ← Bool.and_assoc, hG, hr]
theorem okP_r {t : Int} {x : Q4} {r : Bool} (h : (decide (0 ≤ x.b ∧ x.b ≤ t - 2 ∧ 0 ≤ x.a ∧ 0 ≤ x.c ∧ x.c ≤ t - 1 ∧ 0 ≤ x.d ∧ x.d ≤ t - 1 ∧ ¬ x.c = x.d)) = r) : okP t x = r := by
  subst h
  unfold okP
  rw [Bool.eq_iff_iff]
  simp
  omega
theorem okC_r {t : Int} {x : Q4} {r : Bool} (h : (decide (0 ≤ x.b ∧ x.b ≤ t - 2 ∧ 0 ≤ x.a)) = r) : okC t x = r := by
  subst h
  unfold okC
  rw [Bool.eq_iff_iff]
  simp
  omega
end Go.Proofs.Ytaenafcecfdffaa
/-
  Append of a whole slice of ints to a row of the call's own; slices.Clone.
-/
namespace Go.Proofs.Ytaenafcecfdffaa
open Go.RowKit
theorem run_app0 {P : Program} (w : World) (t ty e : TypeId) (i : TypeInfo) (ht : P.underlying t = some (.slice e)) (hi : P.info? e = some i) (B : Option Addr) (n d c : Nat) (h : n ≤ d) :
    (Builtin.append_ #[t, t] ty #[.slice B n d, .slice none 0 c]).run P w = .ok (.slice B n d) w := by
  cases B <;> simp [Builtin.append_, run_underlying ht, sizeOf, typeInfo, hi, Builtin.lenOf, Builtin.firstCells, h, storeCells]
theorem rdI_news {w : World} {B b o : Nat} {ds : List Int} (h : RdI w B (some ⟨b, o, none⟩) ds) : ∀ j u, (ds.map vInt)[j]? = some u → w.cell? ((⟨b, o, none⟩ : Addr).add j) = some u := fun j u hu => by
  rw [List.getElem?_map] at hu
  cases hx : ds[j]? with
  | none => rw [hx] at hu; cases hu
  | some x =>
    rw [hx] at hu
    injection hu with hu
    obtain ⟨b', o', e, _, c0⟩ := h j x hx
    injection e with e; injection e with e1 e2
    subst e1 e2
    rw [Addr.add_lit, ← hu]; exact c0
theorem one_ints (ds : List Int) : ∀ u ∈ ds.map vInt, u.oneCell' = true := fun u hu => by
  obtain ⟨x, _, rfl⟩ := List.mem_map.1 hu; rfl
theorem wpList_appI {w : World} {ops : Array Oper} {rest : List Oper} {o : Oper} {a : Act} {Q : Exit → Act → World → Prop} (hgd : o.guard = none) (s x : Operand)
    (ho : o.op = .call { callee := .builtin .append, args := #[s, x], argTypes := #[39, 39] })
    (base : Nat) (v : Value) (n : Nat) (xs : List Int) (hs : a.eval s = v) (hown : w.ownsRow base 3 1 v n (xs.map vInt))
    (A : Option Addr) (m c : Nat) (ds : List Int) (hx : a.eval x = .slice A m c) (hr : RdI w w.heap.size A ds) (hl : ds.length = m)
    (hn : n + m ≤ 1000000000) (hbase : base ≤ w.heap.size)
    (h : ∀ A' c' w', w'.ownsRow base 3 1 (.slice A' (n + m) c') (n + m) ((xs ++ ds).map vInt) → w.grownBy w' v.ownBlock → wpList Try.prog ops Q rest (a.put o.dst (.slice A' (n + m) c')) w') :
    wpList Try.prog ops Q (o :: rest) a w := by
  refine wpList_plain hgd fun K hK => ?_
  cases A with
  | none =>
    have hw0 : ds = [] := by
      cases ds with
      | nil => rfl
      | cons y ws => obtain ⟨b, o', e, _⟩ := hr 0 y rfl; cases e
    subst hw0
    obtain rfl : 0 = m := hl
    obtain ⟨B, d, rfl⟩ := own_form hown
    obtain ⟨i, hi, hz, hsize, hb⟩ := info_parts infoInt
    have hcc := own_caps hown
    have hrun := run_app0 (P := Try.prog) w 39 o.type 3 i Try.underlying39 hi B n d c hcc.1
    unfold Oper.wp execOp
    simp only [ho, resolve, invoke, builtin, Sem.run_bind, Sem.run_pure, Result.andThen_ok, List.map_toArray, List.map_cons, List.map_nil, hs, hx, hrun]
    exact hK _ _ (h B d w (by rw [List.append_nil]; exact hown) ⟨rfl, rfl, rfl, Nat.le_refl _, fun _ _ _ => rfl⟩)
  | some ad =>
    refine wp_appN s x 39 ho base 3 (.int .i64 0) 1 8 Try.underlying39 infoInt rfl (by omega) (by omega) v n (xs.map vInt) hs hown ad m c (ds.map vInt) hx (by rw [List.length_map, hl]; omega) ?_ (one_ints ds) hn hbase ?_
    · cases ds with
      | nil => intro j u hu; simp at hu
      | cons y ws =>
        obtain ⟨b, o', e, _⟩ := hr 0 y rfl
        injection e with e
        subst e
        exact rdI_news hr
    · intro v' w' hown' hgrow' _ _
      obtain ⟨A', c', rfl⟩ := own_form hown'
      exact hK _ _ (h A' c' w' (by rw [List.map_append]; exact hown') hgrow')
/-- an ending: a row of the call's own -/
def RetO (xs : List Int) (w : World) (e : Ending) (w' : World) : Prop := ∃ A n c, e = .returned (.slice A n c) ∧ w'.ownsRow w.heap.size 3 1 (.slice A n c) n (xs.map vInt) ∧ xs.length = n ∧ Below w.heap.size w w'
theorem run_eqlnil {P : Program} (w : World) (t e : TypeId) (a : Option Addr) (l c : Nat) (h : P.underlying t = some (.slice e)) : (binOp .eql t (.slice a l c) (.slice none 0 0)).run P w = .ok (.bool a.isNone) w := by
  unfold binOp
  simp [run_equal_slice_nil w t e a l c h]
set_option maxRecDepth 100000 in
theorem clone48 (A : Option Addr) (n c : Nat) (ds : List Int) (w : World) (hr : RdI w w.heap.size A ds) (hl : ds.length = n) (hn : n ≤ 1000000000) :
    Calls Try.prog 40 #[.slice A n c] w (RetO ds w) := by
  have HR := Lib.hid hr; clear hr
  cases A with
  | none =>
    have h0 : ds = [] := by
      cases ds with
      | nil => rfl
      | cons y ws => obtain ⟨b, o', e, _⟩ := HR.out 0 y rfl; cases e
    subst h0
    have E := fun W => run_eqlnil (P := Try.prog) W 39 3 none n c Try.underlying39
    simp only [Option.isNone_none] at E
    obtain rfl : 0 = n := hl
    go_enter Try.func40, Try.ntmps40
    go_wp2
    go_ret
    exact ⟨none, 0, 0, rfl, World.ownsRow_nil _ _ _ _, rfl, Below.refl _ _⟩
  | some ad =>
    have E := fun W => run_eqlnil (P := Try.prog) W 39 3 (some ad) n c Try.underlying39
    simp only [Option.isNone_some] at E
    go_enter Try.func40, Try.ntmps40
    go_wp2_with (at_builtin; refine wpList_appI rfl (.tmp 5) (.tmp 6) rfl w.heap.size (.slice (some ⟨w.heap.size, 0, none⟩) 0 0) 0 [] rfl (own_lit0 (Nat.le_refl _)) (some ad) n c ds rfl (HR.out.up (by go_grown)) hl (by omega) (by simp) ?_)
    intro A' c' w' hown hgrow
    have hb : Below w.heap.size w w' := ((Below.refl _ w).alloc (Nat.le_refl _) (.cells #[] 3)).grown hgrow (by simp) (fun k hk => by simp [Value.ownBlock] at hk; omega)
    have HO := Lib.hid hown; clear hown
    go_wp2
    go_ret
    exact ⟨A', n, c', by simp, by simpa using HO.out, hl, hb⟩
end Go.Proofs.Ytaenafcecfdffaa
