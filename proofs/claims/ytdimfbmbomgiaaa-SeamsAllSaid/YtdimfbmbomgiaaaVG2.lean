/-
  A range over a function, at the wide fence, for an iterator that writes memory of its caller's between two rounds: the caller says what holds between two rounds (I) and behind a round that returned (Ix); the iterator is asked for these two alone.
-/
import Derived.Test.YtdimfbmbomgiaaaVG1
import Derived.RangeFuncNested
import Derived.RangeFuncBound
import Derived.RangeFuncCalls
import Derived.RangeFuncLeaves
import Derived.Laws.StandIn
import Derived.Lib.Bytealg
namespace Go.Proofs.Ytdimfbmbomgiaaa
open Go.RowKit
/-- a round that goes on leaves all old blocks but the loop's record -/
def KeepBut (l : Nat) (A B : World) : Prop := A.heap.size ≤ B.heap.size ∧ ∀ r, r < A.heap.size → r ≠ l → B.heap[r]? = A.heap[r]?
theorem KeepBut.trans {l : Nat} {A B C : World} (h : KeepBut l A B) (k : KeepBut l B C) : KeepBut l A C :=
  ⟨Nat.le_trans h.1 k.1, fun r hr hl => (k.2 r (Nat.lt_of_lt_of_le hr h.1) hl).trans (h.2 r hr hl)⟩
theorem KeepBut.put (l : Nat) (A : World) (o : Obj) : KeepBut l A (A.putObj l o) :=
  ⟨Nat.le_of_eq (by simp [World.putObj]), fun r _ hl => World.putObj_heap_other hl⟩
/-- .. a round that leaves may have turned one block more -/
def KeepBut2 (l b : Nat) (A B : World) : Prop := A.heap.size ≤ B.heap.size ∧ ∀ r, r < A.heap.size → r ≠ l → r ≠ b → B.heap[r]? = A.heap[r]?
theorem KeepBut.two {l b : Nat} {A B : World} (h : KeepBut l A B) : KeepBut2 l b A B := ⟨h.1, fun r hr hl _ => h.2 r hr hl⟩
theorem KeepBut2.trans {l b : Nat} {A B C : World} (h : KeepBut2 l b A B) (k : KeepBut2 l b B C) : KeepBut2 l b A C :=
  ⟨Nat.le_trans h.1 k.1, fun r hr hl hb => (k.2 r (Nat.lt_of_lt_of_le hr h.1) hl hb).trans (h.2 r hr hl hb)⟩
/-- what the iterator is told of the state between two rounds: I, the loop's record and the block of its deferred calls -/
structure Mid {α : Type} (I : List α → World → Prop) (l d : Nat) (rc : Loop) (pre : List α) (W : World) : Prop where
  inv : I pre W
  rec_ : W.heap[l]? = some (.loop rc)
  dfr : W.heap[d]? = some (.deferred (some []))
theorem Mid.go {α : Type} {I : List α → World → Prop} {l d : Nat} {rc : Loop} {pre : List α} {W W' : World} (h : Mid I l d rc pre W) (hk : KeepsOthers W W') (hi : I pre W') : Mid I l d rc pre W' :=
  ⟨hi, hk.same _ _ h.rec_ rfl, hk.same _ _ h.dfr rfl⟩
theorem range_law {P : Program} {n : Nat} {g : Operand} {ps : Array Tmp} {assign body : Code} {Q : Exit → Act → World → Prop} {a : Act} {w : World} {gf : Nat} {lb : Array Value}
    (hg : a.eval g = .func (.func gf) #[] lb) (eg : ∀ args w, (callFunc gf args).run P w = .ok (.enter gf args) w)
    {α : Type} (encs : α → Array Value) (hps : ∀ x, (encs x).size = ps.size)
    (I Ix : List α → World → Prop) (S Sp : List α → Prop) (bR : Nat)
    (hI : OwnFrom w.heap.size I) (hIx : OwnFrom w.heap.size Ix) (h0 : I [] w)
    (hiter : ∀ (l d : Nat) (r0 r1 : Loop) (W : World), w.heap.size ≤ d → d < l → KeepBut l w W → Mid I l d r0 [] W →
      (∀ pre x W1, Mid I l d r0 pre W1 → YieldAt Fence.wide n P l (encs x) W1 fun e W' => (e = .returned (.bool true) ∧ Mid I l d r0 (pre ++ [x]) W' ∧ KeepBut l W1 W') ∨ (e = .returned (.bool false) ∧ Mid Ix l d r1 (pre ++ [x]) W' ∧ KeepBut2 l bR W1 W')) →
      CallsIn Fence.wide n P gf (#[.func (.yield l) #[] #[]] ++ lb) W fun e W' => (∃ v, e = .returned v) ∧ ((∃ xs, S xs ∧ Mid I l d r0 xs W') ∨ (∃ xs, Sp xs ∧ Mid Ix l d r1 xs W')))
    (hround : ∀ (l : Nat) (pre : List α) (x : α) (W : World) (o : Obj), w.heap.size < l → I pre W → W.heap[l]? = some o → o.isCells = false →
      assign.wpIn (Fence.wide.inRound l) n P (Exit.then (fun a₁ W1 => KeepsOthers W W1 ∧ KeepBut l W W1 ∧ ∀ o', o'.isCells = false → body.wpIn (Fence.wide.inRound l) n P (fun e _ W3 => match e with
          | .normal => KeepsOthers (W1.putObj l o') W3 ∧ KeepBut l (W1.putObj l o') W3 ∧ I (pre ++ [x]) W3
          | .ret => KeepsOthers (W1.putObj l o') W3 ∧ KeepBut2 l bR (W1.putObj l o') W3 ∧ Ix (pre ++ [x]) W3
          | _ => False) a₁ (W1.putObj l o')) (fun _ _ _ => False)) { tmps := (ps.zip (encs x)).foldl (fun t (p, v) => t.setIfInBounds p v) a.tmps, defers := [] } W)
    (hdone : ∀ (D : Nat) (xs : List α) (W : World), w.heap.size ≤ D → S xs → I xs W → W.heap[D]? = some (.deferred (some [])) → Q .normal { a with defers := { target := .collected D, args := #[] } :: a.defers } W)
    (hstop : ∀ (D : Nat) (xs : List α) (W : World), w.heap.size ≤ D → Sp xs → Ix xs W → W.heap[D]? = some (.deferred (some [])) → Code.ret.wpIn Fence.wide n P Q { a with defers := { target := .collected D, args := #[] } :: a.defers } W) :
    (Code.rangeFunc g ps assign body).wpIn Fence.wide n P Q a w := by
  refine wpIn_rangeFunc fun fn hfn => ?_
  obtain ⟨rc, hrc⟩ : ∃ rc : LoopState → Option Code → Loop, rc = fun st pe => { state := st, pending := pe, fn := fn, tmps := a.tmps, params := ps, assign := assign, body := body, defers := w.heap.size } := ⟨_, rfl⟩
  have hent := run_enterLoop_outer (P := P) (w := w) fn a.tmps ps assign body
  have hb1 : KeepBut (w.heap.size + 1) w ((w.alloc (.deferred (some []))).alloc (.loop (rc .ready none))) :=
    ⟨by simp; omega, fun r hr _ => (Below.heap_alloc _ _ r (by simp; omega)).trans (Below.heap_alloc w _ r hr)⟩
  have hL1 : ((w.alloc (.deferred (some []))).alloc (.loop (rc .ready none))).heap[w.heap.size + 1]? = some (.loop (rc .ready none)) := by
    have := World.alloc_heap_new (w.alloc (.deferred (some []))) (.loop (rc .ready none)); rwa [World.size_alloc] at this
  have hD1 : ((w.alloc (.deferred (some []))).alloc (.loop (rc .ready none))).heap[w.heap.size]? = some (.deferred (some [])) :=
    (Below.heap_alloc _ _ _ (by simp)).trans (World.alloc_heap_new w _)
  have hI1 : I [] ((w.alloc (.deferred (some []))).alloc (.loop (rc .ready none))) := hI.alloc _ (hI.alloc _ h0)
  refine ⟨w.heap.size + 1, [{ target := .collected w.heap.size, args := #[] }], ((w.alloc (.deferred (some []))).alloc (.loop (rc .ready none))), { target := .fn (.func gf) lb, args := #[.func (.yield (w.heap.size + 1)) #[] #[]] }, _, gf,
    #[.func (.yield (w.heap.size + 1)) #[] #[]] ++ lb, _, by rw [hrc]; exact hent, by simp only [resolve, hg]; simp [go_sem]; rfl, fun _ _ => trivial, by simp [invoke, go_sem, eg]; rfl, fun h => by simp [Fence.wide] at h, ?_⟩
  subst hrc
  refine callsIn_wide.2 (callsIn_wide.1 ((hiter (w.heap.size + 1) w.heap.size _ ({ state := .done, pending := some .ret, fn := fn, tmps := a.tmps, params := ps, assign := assign, body := body, defers := w.heap.size }) _ (Nat.le_refl _) (Nat.lt_succ_self _) hb1 ⟨hI1, hL1, hD1⟩ ?_).mono ?_))
  · rintro pre x W ⟨hi, hl, hk⟩
    refine ⟨fn, _, assign, body, run_yield (P := P) (args := encs x) hl (hps x), roundIn_of_wpIn hfn ?_⟩
    refine wpIn_mono (hround (w.heap.size + 1) pre x W _ (Nat.lt_succ_self _) hi hl rfl) ?_
    rintro e a1 W1 hp
    cases e with
    | normal =>
      obtain ⟨hko, hkb, hbd⟩ := hp
      have hl1 := hko.same _ _ hl rfl
      have hk1 := hko.same _ _ hk rfl
      have hlt := (Array.getElem?_eq_some_iff.1 hl1).1
      refine ⟨_, run_beginRound hl1 rfl, wpIn_mono (hbd _ rfl) ?_⟩
      rintro e a3 W3 hq
      cases e with
      | normal =>
        obtain ⟨hk3, hb3, hi3⟩ := hq
        have hl3 := hk3.same _ _ (World.putObj_heap_same hlt) rfl
        have hd3 := hk3.same _ _ ((World.putObj_heap_other (by omega)).trans hk1) rfl
        refine ⟨_, _, run_endRound none hl3, .inl ⟨rfl, ⟨hI.putObj _ hi3 (by omega) hl3 rfl, World.putObj_heap_same (Array.getElem?_eq_some_iff.1 hl3).1, (World.putObj_heap_other (by omega)).trans hd3⟩, ?_⟩⟩
        exact ((hkb.trans (KeepBut.put _ _ _)).trans hb3).trans (KeepBut.put _ _ _)
      | ret =>
        obtain ⟨hk3, hb3, hi3⟩ := hq
        have hl3 := hk3.same _ _ (World.putObj_heap_same hlt) rfl
        have hd3 := hk3.same _ _ ((World.putObj_heap_other (by omega)).trans hk1) rfl
        exact ⟨_, _, run_endRound (some .ret) hl3, .inr ⟨rfl, ⟨hIx.putObj _ hi3 (by omega) hl3 rfl, World.putObj_heap_same (Array.getElem?_eq_some_iff.1 hl3).1, (World.putObj_heap_other (by omega)).trans hd3⟩, (((hkb.trans (KeepBut.put _ _ _)).two).trans hb3).trans (KeepBut.put _ _ _).two⟩⟩
      | exit id => exact hq.elim
      | goto t => exact hq.elim
      | panic ch => exact hq.elim
      | outgrown => exact hq.elim
    | ret => exact hp.elim
    | exit id => exact hp.elim
    | goto t => exact hp.elim
    | panic ch => exact hp.elim
    | outgrown => exact hp.elim
  · rintro e W2 ⟨⟨v, rfl⟩, (⟨xs, hS, hm⟩ | ⟨xs, hSp, hm⟩)⟩
    · exact ⟨none, _, run_endLoop (P := P) hm.rec_ (by simp), hdone _ xs _ (Nat.le_refl _) hS (hI.putObj _ hm.inv (by omega) hm.rec_ rfl) ((World.putObj_heap_other (by omega)).trans hm.dfr)⟩
    · exact ⟨some .ret, _, run_endLoop (P := P) hm.rec_ (by simp), hstop _ xs _ (Nat.le_refl _) hSp (hIx.putObj _ hm.inv (by omega) hm.rec_ rfl) ((World.putObj_heap_other (by omega)).trans hm.dfr)⟩
end Go.Proofs.Ytdimfbmbomgiaaa
/-
  A range over a function whose body writes: the caller says what holds between two rounds (I), what a round may change (K), and is told of each value's memory (Ok).
-/
namespace Go.Proofs.Ytdimfbmbomgiaaa
open Go.RowKit
theorem range_lawK {P : Program} {n : Nat} {g : Operand} {ps : Array Tmp} {assign body : Code} {Q : Exit → Act → World → Prop} {a : Act} {w : World} {gf : Nat} {lb : Array Value}
    (hg : a.eval g = .func (.func gf) #[] lb) (eg : ∀ args w, (callFunc gf args).run P w = .ok (.enter gf args) w)
    {α : Type} (encs : α → Array Value) (hps : ∀ x, (encs x).size = ps.size)
    (I : Nat → List α → World → Prop) (S : List α → Prop) (Ok : Nat → List α → α → World → Prop) (K : Nat → Nat → World → World → Prop) (hKt : ∀ l hi A B C, K l hi A B → K l hi B C → K l hi A C) (hKp : ∀ l hi (A : World) o o', A.heap[l]? = some o → o.isCells = false → K l hi A (A.putObj l o'))
    (hI : ∀ hi, OwnFrom w.heap.size (I hi)) (h0 : I w.heap.size [] w)
    (hiter : ∀ (l d : Nat) (r0 : Loop) (W : World), w.heap.size ≤ d → d < l → KeepBut l w W → Mid (I w.heap.size) l d r0 [] W →
      (∀ hi pre x W1, Ok hi pre x W1 → hi ≤ W1.heap.size → Mid (I hi) l d r0 pre W1 → YieldAt Fence.wide n P l (encs x) W1 fun e W' => e = .returned (.bool true) ∧ Mid (I W'.heap.size) l d r0 (pre ++ [x]) W' ∧ K l hi W1 W') →
      CallsIn Fence.wide n P gf (#[.func (.yield l) #[] #[]] ++ lb) W fun e W' => (∃ v, e = .returned v) ∧ (∃ hi xs, S xs ∧ Mid (I hi) l d r0 xs W'))
    (hround : ∀ (hi l : Nat) (pre : List α) (x : α) (W : World) (o : Obj), Ok hi pre x W → w.heap.size < l → hi ≤ W.heap.size → I hi pre W → W.heap[l]? = some o → o.isCells = false →
      assign.wpIn (Fence.wide.inRound l) n P (Exit.then (fun a₁ W1 => KeepsOthers W W1 ∧ K l hi W W1 ∧ ∀ o', o'.isCells = false → body.wpIn (Fence.wide.inRound l) n P (fun e _ W3 => match e with
          | .normal => KeepsOthers (W1.putObj l o') W3 ∧ K l hi (W1.putObj l o') W3 ∧ I W3.heap.size (pre ++ [x]) W3
          | _ => False) a₁ (W1.putObj l o')) (fun _ _ _ => False)) { tmps := (ps.zip (encs x)).foldl (fun t (p, v) => t.setIfInBounds p v) a.tmps, defers := [] } W)
    (hdone : ∀ (D hi : Nat) (xs : List α) (W : World), w.heap.size ≤ D → S xs → I hi xs W → W.heap[D]? = some (.deferred (some [])) → Q .normal { a with defers := { target := .collected D, args := #[] } :: a.defers } W) :
    (Code.rangeFunc g ps assign body).wpIn Fence.wide n P Q a w := by
  refine wpIn_rangeFunc fun fn hfn => ?_
  obtain ⟨rc, hrc⟩ : ∃ rc : LoopState → Option Code → Loop, rc = fun st pe => { state := st, pending := pe, fn := fn, tmps := a.tmps, params := ps, assign := assign, body := body, defers := w.heap.size } := ⟨_, rfl⟩
  have hent := run_enterLoop_outer (P := P) (w := w) fn a.tmps ps assign body
  have hb1 : KeepBut (w.heap.size + 1) w ((w.alloc (.deferred (some []))).alloc (.loop (rc .ready none))) :=
    ⟨by simp; omega, fun r hr _ => (Below.heap_alloc _ _ r (by simp; omega)).trans (Below.heap_alloc w _ r hr)⟩
  have hL1 : ((w.alloc (.deferred (some []))).alloc (.loop (rc .ready none))).heap[w.heap.size + 1]? = some (.loop (rc .ready none)) := by
    have := World.alloc_heap_new (w.alloc (.deferred (some []))) (.loop (rc .ready none)); rwa [World.size_alloc] at this
  have hD1 : ((w.alloc (.deferred (some []))).alloc (.loop (rc .ready none))).heap[w.heap.size]? = some (.deferred (some [])) :=
    (Below.heap_alloc _ _ _ (by simp)).trans (World.alloc_heap_new w _)
  have hI1 : I w.heap.size [] ((w.alloc (.deferred (some []))).alloc (.loop (rc .ready none))) := (hI _).alloc _ ((hI _).alloc _ h0)
  refine ⟨w.heap.size + 1, [{ target := .collected w.heap.size, args := #[] }], ((w.alloc (.deferred (some []))).alloc (.loop (rc .ready none))), { target := .fn (.func gf) lb, args := #[.func (.yield (w.heap.size + 1)) #[] #[]] }, _, gf,
    #[.func (.yield (w.heap.size + 1)) #[] #[]] ++ lb, _, by rw [hrc]; exact hent, by simp only [resolve, hg]; simp [go_sem]; rfl, fun _ _ => trivial, by simp [invoke, go_sem, eg]; rfl, fun h => by simp [Fence.wide] at h, ?_⟩
  subst hrc
  refine callsIn_wide.2 (callsIn_wide.1 ((hiter (w.heap.size + 1) w.heap.size _ _ (Nat.le_refl _) (Nat.lt_succ_self _) hb1 ⟨hI1, hL1, hD1⟩ ?_).mono ?_))
  · rintro top pre x W hok htop ⟨hi, hl, hk⟩
    refine ⟨fn, _, assign, body, run_yield (P := P) (args := encs x) hl (hps x), roundIn_of_wpIn hfn ?_⟩
    refine wpIn_mono (hround top (w.heap.size + 1) pre x W _ hok (Nat.lt_succ_self _) htop hi hl rfl) ?_
    rintro e a1 W1 hp
    cases e with
    | normal =>
      obtain ⟨hko, hkb, hbd⟩ := hp
      have hl1 := hko.same _ _ hl rfl
      have hk1 := hko.same _ _ hk rfl
      have hlt := (Array.getElem?_eq_some_iff.1 hl1).1
      refine ⟨_, run_beginRound hl1 rfl, wpIn_mono (hbd _ rfl) ?_⟩
      rintro e a3 W3 hq
      cases e with
      | normal =>
        obtain ⟨hk3, hb3, hi3⟩ := hq
        have hl3 := hk3.same _ _ (World.putObj_heap_same hlt) rfl
        have hd3 := hk3.same _ _ ((World.putObj_heap_other (by omega)).trans hk1) rfl
        refine ⟨_, _, run_endRound none hl3, ⟨rfl, ⟨?_, World.putObj_heap_same (Array.getElem?_eq_some_iff.1 hl3).1, (World.putObj_heap_other (by omega)).trans hd3⟩, ?_⟩⟩
        · have hz : ∀ o, (W3.putObj (w.heap.size + 1) o).heap.size = W3.heap.size := fun o => by simp [World.putObj]
          rw [hz]
          exact (hI _).putObj _ hi3 (by omega) hl3 rfl
        · exact hKt _ _ _ _ _ (hKt _ _ _ _ _ (hKt _ _ _ _ _ hkb (hKp _ _ _ _ _ hl1 rfl)) hb3) (hKp _ _ _ _ _ hl3 rfl)
      | ret => exact hq.elim
      | exit id => exact hq.elim
      | goto t => exact hq.elim
      | panic ch => exact hq.elim
      | outgrown => exact hq.elim
    | ret => exact hp.elim
    | exit id => exact hp.elim
    | goto t => exact hp.elim
    | panic ch => exact hp.elim
    | outgrown => exact hp.elim
  · rintro e W2 ⟨⟨v, rfl⟩, ⟨hi, xs, hS, hm⟩⟩
    exact ⟨none, _, run_endLoop (P := P) hm.rec_ (by simp), hdone _ hi xs _ (Nat.le_refl _) hS ((hI _).putObj _ hm.inv (by omega) hm.rec_ rfl) ((World.putObj_heap_other (by omega)).trans hm.dfr)⟩
end Go.Proofs.Ytdimfbmbomgiaaa
/-
  Contracts of package stitches (words of moves): IndexByte, Check, and of the library's IndexByte beneath.
-/
namespace Go.Proofs.Ytdimfbmbomgiaaa
open Go.RowKit
theorem indexByte_eq (l : List UInt8) (c : UInt8) : Lib.indexByte l c = idxOf l c := by
  induction l with
  | nil => rfl
  | cons b l ih =>
    unfold Lib.indexByte
    unfold idxOf at ih ⊢
    simp only [List.idxOf?] at ih ⊢
    rw [List.findIdx?_cons]
    cases hb : (b == c) with
    | true => simp
    | false =>
      rw [ih]
      cases h : List.findIdx? (fun x => x == c) l with
      | none => simp
      | some k =>
        have : ¬ ((k : Int) = -1) := by omega
        simp [this]
theorem idxExt (s : ByteArray) (c : UInt8) (w : World) : (callFunc 73 #[.string s, .int .u8 c.toNat]).run Try.prog w = .ok (.value (.int .i64 (idxOf s.data.toList c))) w := by
  rw [run_callFunc_indexByte Try.func73 (by kernel_rfl) (by kernel_rfl) (by kernel_rfl) (by kernel_rfl), Lib.run_indexByteString]
  rw [indexByte_eq]
  have : (c.toNat : Int).toNat.toUInt8 = c := by simp
  rw [this]
  rfl
theorem liteIndex (s : ByteArray) (c : UInt8) (w : World) :
    Calls Try.prog 69 #[.string s, .int .u8 c.toNat] w fun e w' => e = .returned (.int .i64 (idxOf s.data.toList c)) ∧ w = w' := by
  go_enter Try.func69, Try.ntmps69
  go_wp2_with (simp only [idxExt])
  go_ret
  exact ⟨rfl, rfl⟩
theorem strIndex (s : ByteArray) (c : UInt8) (w : World) :
    Calls Try.prog 59 #[.string s, .int .u8 c.toNat] w fun e w' => e = .returned (.int .i64 (idxOf s.data.toList c)) ∧ w = w' := by
  go_enter Try.func59, Try.ntmps59
  go_wp2_with (go_at_call 69; refine (liteIndex _ _ _).mono ?_; rintro e w' ⟨rfl, rfl⟩)
  go_ret
  exact ⟨rfl, rfl⟩
theorem strIndex_let (c : UInt8) (w : World) :
    Calls Try.prog 59 #[.string ⟨#[67, 84, 76, 82, 80, 99, 116, 108, 114]⟩, .int .u8 c.toNat] w fun e w' => e = .returned (.int .i64 (idxOf letters c)) ∧ w = w' :=
  strIndex ⟨#[67, 84, 76, 82, 80, 99, 116, 108, 114]⟩ c w

set_option maxRecDepth 100000 in
set_option maxHeartbeats 400000 in
theorem stCheck (s : ByteArray) (w : World) (hs : s.size ≤ 9223372036854775807) :
    Calls Try.prog 49 #[.string s] w fun e w' => e = .returned (.int .i64 (wchk s)) ∧ w = w' := by
  by_cases hl : 16 < s.size
  · go_enter Try.func49, Try.ntmps49
    go_wp2
    go_ret
    exact ⟨ret_int (wchk_long hl).symm, rfl⟩
  have hl' : s.size ≤ 16 := by omega
  go_enter Try.func49, Try.ntmps49
  go_wp2
  go_loop [9] (fun i => ∃ k : Nat, k ≤ s.size ∧ i = .int .i64 k ∧ ∀ j, ∀ hj : j < s.size, j < k → isLet s[j] = true) (fun i => s.size - (intOf i).toNat)
  case atStart => exact ⟨0, Nat.zero_le _, rfl, fun j _ hj => absurd hj (by omega)⟩
  case round =>
    obtain ⟨k, hk, rfl, hno⟩ := hrel
    have H := Lib.hid hno; clear hno
    by_cases hlt : k < s.size
    · by_cases hc : 0 ≤ idxOf letters s[k]
      · go_wp2_with (go_at_call 59; refine (strIndex_let _ _).mono ?_; rintro e w' ⟨rfl, rfl⟩)
        go_round
        case rel => exact ⟨k + 1, by omega, by go_num, fun j hs' hj => by
          rcases Nat.lt_or_ge j k with h | h
          · exact H.out j hs' h
          · obtain rfl : j = k := by omega
            exact (isLet_iff _).2 hc⟩
        case measure => simp [intOf]; omega
      · have hc' : idxOf letters s[k] < 0 := by omega
        go_wp2_with (go_at_call 59; refine (strIndex_let _ _).mono ?_; rintro e w' ⟨rfl, rfl⟩)
        go_ret
        exact ⟨ret_int (wchk_bad hl' (wOk_not hlt (idx_no hc'))).symm, rfl⟩
    · go_wp2
      go_ret
      exact ⟨ret_int (wchk_ok hl' (wOk_of fun j hj => H.out j hj (by omega))).symm, rfl⟩
end Go.Proofs.Ytdimfbmbomgiaaa
/-
  Words on clothes: a slice of crossings or pins read as a list; what the document says of a cloth's numbers.
-/
namespace Go.Proofs.Ytdimfbmbomgiaaa
open Go.RowKit
/-- a crossing or a pin: its four numbers -/
structure Q4 where
  a : Int
  b : Int
  c : Int
  d : Int
deriving DecidableEq
def RdQ (w : World) (B : Nat) (A : Option Addr) (xs : List Q4) : Prop :=
  ∀ (k : Nat) (x : Q4), xs[k]? = some x → ∃ b o, A = some ⟨b, o, none⟩ ∧ b < B ∧
    w.cell? ⟨b, o + k*4, none⟩ = some (.int .i64 x.a) ∧ w.cell? ⟨b, o + k*4+1, none⟩ = some (.int .i64 x.b) ∧ w.cell? ⟨b, o + k*4+2, none⟩ = some (.int .i64 x.c) ∧ w.cell? ⟨b, o+k*4+3, none⟩ = some (.int .i64 x.d)
theorem RdQ.below {w w' : World} {B B' : Nat} {A : Option Addr} {xs : List Q4} (h : RdQ w B A xs) (hb : Below B w w') (hB : B ≤ B') : RdQ w' B' A xs := fun k x hx => by
  obtain ⟨b, o, h1, h2, h3, h4, h5, h6⟩ := h k x hx
  exact ⟨b, o, h1, Nat.lt_of_lt_of_le h2 hB, (hb.cell h2).trans h3, (hb.cell h2).trans h4, (hb.cell h2).trans h5, (hb.cell h2).trans h6⟩
theorem RdQ.up {w w' : World} {A : Option Addr} {xs : List Q4} (h : RdQ w w.heap.size A xs) (hb : Below w.heap.size w w') : RdQ w' w'.heap.size A xs := h.below hb hb.size
theorem RdQ.nil (w : World) (B : Nat) (A : Option Addr) : RdQ w B A [] := fun k x hx => by simp at hx
def okC (t : Int) (x : Q4) : Bool := decide (0 ≤ x.b) && decide (x.b ≤ t - 2) && decide (0 ≤ x.a)
def okP (t : Int) (x : Q4) : Bool := decide (0 ≤ x.b) && decide (x.b ≤ t - 2) && decide (0 ≤ x.a) && decide (0 ≤ x.c) && decide (x.c < t) && decide (0 ≤ x.d) && decide (x.d < t) && !(x.c == x.d)
def numsOk (t : Int) (xs ps : List Q4) : Bool := decide (2 ≤ t) && xs.all (okC t) && ps.all (okP t)
/-- a cloth as a value -/
abbrev vCloth (t : Int) (A : Option Addr) (n c : Nat) (B : Option Addr) (m d : Nat) : Value := .agg #[.int .i64 t, .slice A n c, .slice B m d]
theorem all_step {α : Type} {p : α → Bool} {l : List α} {k : Nat} {x : α} (hx : l[k]? = some x) : (l.take (k + 1)).all p = ((l.take k).all p && p x) := by
  rw [List.take_add_one, hx]; simp
theorem all_false {α : Type} {p : α → Bool} {l : List α} {k : Nat} {x : α} (hx : l[k]? = some x) (h : p x = false) : l.all p = false := by
  rw [List.all_eq_false]; exact ⟨x, mem_of_get hx, by rw [h]; simp⟩
end Go.Proofs.Ytdimfbmbomgiaaa
/-
  Contracts of torchonref17: numbers.
-/
namespace Go.Proofs.Ytdimfbmbomgiaaa
open Go.RowKit
set_option maxRecDepth 100000 in
set_option maxHeartbeats 2000000 in
theorem numbers17 (t : Int) (A B : Option Addr) (n c m d : Nat) (xs ps : List Q4) (w : World) (ht : t ≤ 48) (hn : n ≤ 20000) (hm : m ≤ 6400) (hx : RdQ w w.heap.size A xs) (hp : RdQ w w.heap.size B ps) (hl : xs.length = n) (hl' : ps.length = m) (ht0 : -9223372036854775808 ≤ t) :
    Calls Try.prog 57 #[vCloth t A n c B m d] w fun e w' => e = .returned (.bool (numsOk t xs ps)) ∧ Below w.heap.size w w' := by
  have HX := Lib.hid hx; clear hx
  have HP := Lib.hid hp; clear hp
  have HL := Lib.hid hl; clear hl
  have HL' := Lib.hid hl'; clear hl'
  by_cases h2 : t < 2
  · have e : numsOk t xs ps = false := by unfold numsOk; rw [decide_eq_false (by omega)]; rfl
    rw [e]; clear e
    go_enter Try.func57, Try.ntmps57
    go_wp2
    go_ret
    exact ⟨rfl, by go_grown⟩
  have h2' : 2 ≤ t := by omega
  have i1 : IntKind.i64.wrap (t - 2) = t - 2 := IntWalk.i64_in _ (by omega)
  go_enter Try.func57, Try.ntmps57
  go_wp2
  go_loopw [3] (fun i wr => ∃ k : Nat, k ≤ n ∧ i = .int .i64 (k : Int) ∧ (xs.take k).all (okC t) = true ∧ Below w.heap.size w wr ∧ Has wr w.heap.size 49 [.int .i64 t, .slice A n c, .slice B m d]) (fun i _ => n - (intOf i).toNat)
  case atStart => exact ⟨0, Nat.zero_le _, rfl, rfl, by go_grown, Has.new rfl⟩
  case round =>
    obtain ⟨k, hk, rfl, hall, hb, hh⟩ := hrel
    obtain ⟨wo, rfl⟩ : ∃ wo : World, wo = wr := ⟨_, rfl⟩
    have HA := Lib.hid hall; clear hall
    have HH := Lib.hid hh
    have a0 : wo.cell? ⟨w.heap.size, 0, none⟩ = some (.int .i64 t) := hh.cell 0
    have a1 : wo.cell? ⟨w.heap.size, 1, none⟩ = some (.slice A n c) := hh.cell 1
    have a2 : wo.cell? ⟨w.heap.size, 2, none⟩ = some (.slice B m d) := hh.cell 2
    have q := hh.lt
    clear hh
    by_cases hlt : k < n
    · obtain ⟨x, hx⟩ := get_of_lt (l := xs) (k := k) (by rw [HL.out]; exact hlt)
      obtain ⟨ba, o, rfl, hba, c0, c1, c2, c3⟩ := (HX.out.below hb hb.size) _ x hx
      have HXk := Lib.hid hx; clear hx
      go_wp2
      all_goals first
        | (go_ret
           refine ⟨ret_bool (Eq.symm ?_), hb.trans (by go_grown)⟩
           unfold numsOk
           rw [all_false (p := okC t) HXk.out (by unfold okC; simp; omega)]
           simp)
        | skip
      go_roundw
      case rel =>
        refine ⟨k + 1, by omega, by go_num, ?_, hb.alloc (by omega) _, HH.out.alloc _⟩
        rw [all_step HXk.out, HA.out]
        unfold okC; simp; omega
      case measure => first | (simp [intOf]; done) | (simp [intOf]; omega)
    · obtain rfl : k = n := by omega
      have HA' : Hid (xs.all (okC t) = true) := by
        have := HA.out
        rw [List.take_of_length_le (by rw [HL.out]; exact Nat.le_refl _)] at this; exact this
      clear HA HX HL
      go_wp2
      go_loopw [5] (fun i wr => ∃ j : Nat, j ≤ m ∧ i = .int .i64 (j : Int) ∧ (ps.take j).all (okP t) = true ∧ Below w.heap.size w wr ∧ Has wr w.heap.size 49 [.int .i64 t, .slice A k c, .slice B m d]) (fun i _ => m - (intOf i).toNat)
      case atStart => exact ⟨0, Nat.zero_le _, rfl, rfl, hb, HH.out⟩
      case round =>
        clear hb a0 a1 a2 q HH
        obtain ⟨j, hj, rfl, hall, hb, hh⟩ := hrel
        obtain ⟨wo, rfl⟩ : ∃ wo : World, wo = wr := ⟨_, rfl⟩
        have HA := Lib.hid hall; clear hall
        have HH := Lib.hid hh
        have a0 : wo.cell? ⟨w.heap.size, 0, none⟩ = some (.int .i64 t) := hh.cell 0
        have a1 : wo.cell? ⟨w.heap.size, 1, none⟩ = some (.slice A k c) := hh.cell 1
        have a2 : wo.cell? ⟨w.heap.size, 2, none⟩ = some (.slice B m d) := hh.cell 2
        have q := hh.lt
        clear hh
        by_cases hlt : j < m
        · obtain ⟨x, hx⟩ := get_of_lt (l := ps) (k := j) (by rw [HL'.out]; exact hlt)
          obtain ⟨ba, o, rfl, hba, c0, c1, c2, c3⟩ := (HP.out.below hb hb.size) _ x hx
          have HXk := Lib.hid hx; clear hx
          by_cases hcd : x.c = x.d
          · have hcd' : (x.c == x.d) = true := by simpa using hcd
            have HB : Hid (okP t x = false) := by
              show okP t x = false
              unfold okP; rw [hcd']; simp
            clear hcd
            go_wp2
            all_goals go_ret
            all_goals refine ⟨ret_bool (Eq.symm ?_), hb.trans (by go_grown)⟩
            all_goals unfold numsOk
            all_goals rw [all_false (p := okP t) HXk.out HB.out]
            all_goals simp
          · have hcd' : (x.c == x.d) = false := by simpa using hcd
            have HCD := Lib.hid hcd'
            clear hcd
            go_wp2
            all_goals first
              | (go_ret
                 refine ⟨ret_bool (Eq.symm ?_), hb.trans (by go_grown)⟩
                 unfold numsOk
                 rw [all_false (p := okP t) HXk.out (by unfold okP; simp; omega)]
                 simp)
              | skip
            go_roundw
            case rel =>
              refine ⟨j + 1, by omega, by go_num, ?_, hb.alloc (by omega) _, HH.out.alloc _⟩
              rw [all_step HXk.out, HA.out]
              unfold okP; rw [HCD.out]; simp; omega
            case measure => first | (simp [intOf]; done) | (simp [intOf]; omega)
        · obtain rfl : j = m := by omega
          have HB' : Hid (ps.all (okP t) = true) := by
            have := HA.out
            rw [List.take_of_length_le (by rw [HL'.out]; exact Nat.le_refl _)] at this; exact this
          have HF : Hid (numsOk t xs ps = true) := by
            show numsOk t xs ps = true
            unfold numsOk
            rw [HA'.out, HB'.out, decide_eq_true h2']; rfl
          clear HA HB' HA' 
          go_wp2
          go_ret
          exact ⟨ret_bool HF.out.symm, hb⟩
end Go.Proofs.Ytdimfbmbomgiaaa
/-
  Contracts of torchonref17: line, ends, Check.
-/
namespace Go.Proofs.Ytdimfbmbomgiaaa
open Go.RowKit
def lineL (n : Nat) : List Int := (List.range n).map fun (k : Nat) => (k : Int)
def endOk (a b : Int) (x : Q4) : Bool := (a == x.c && b == x.d) || (b == x.c && a == x.d)
def endStep (L : List Int) (x : Q4) : Option (List Int) :=
  match L[x.b.toNat]?, L[x.b.toNat + 1]? with
  | some a, some b => if endOk a b x then some ((L.set x.b.toNat b).set (x.b.toNat + 1) a) else none
  | _, _ => none
def endsTo (xs : List Q4) (L : List Int) : Nat → Option (List Int)
  | 0 => some L
  | k + 1 => (endsTo xs L k).bind fun L' => match xs[k]? with
    | some x => endStep L' x
    | none => none
def endsOk (t : Int) (xs : List Q4) : Bool := (endsTo xs (lineL t.toNat) xs.length).isSome
theorem endsTo_none {xs : List Q4} {L : List Int} {k : Nat} (h : endsTo xs L k = none) : ∀ n, k ≤ n → endsTo xs L n = none := fun n hn => by
  induction n with
  | zero => obtain rfl : k = 0 := by omega
            exact h
  | succ n ih =>
    rcases Nat.lt_or_ge n k with e | e
    · obtain rfl : k = n + 1 := by omega
      exact h
    · show (endsTo xs L n).bind _ = none
      rw [ih e]; rfl
theorem endsTo_succ {xs : List Q4} {L L' : List Int} {k : Nat} {x : Q4} (h : endsTo xs L k = some L') (hx : xs[k]? = some x) : endsTo xs L (k + 1) = endStep L' x := by
  show (endsTo xs L k).bind _ = _
  rw [h, hx]; rfl
theorem endStep_get {L : List Int} {x : Q4} {i : Nat} {a b : Int} (hi : x.b.toNat = i) (ha : L[i]? = some a) (hb : L[i + 1]? = some b) : endStep L x = if endOk a b x then some ((L.set i b).set (i + 1) a) else none := by
  unfold endStep; rw [hi, ha, hb]
theorem lineL_len (n : Nat) : (lineL n).length = n := by simp [lineL]
theorem lineL_succ (n : Nat) : lineL (n + 1) = lineL n ++ [(n : Int)] := by simp [lineL, List.range_succ]
theorem own_has {w : World} {base n : Nat} {e : TypeId} {A : Option Addr} {c : Nat} {xs : List Value} (h : w.ownsRow base e 1 (.slice A n c) n xs) (hn : 0 < n) : ∃ g rest, A = some ⟨g, 0, none⟩ ∧ base ≤ g ∧ Has w g e (xs ++ rest) ∧ n ≤ c := by
  rcases h.2 with ⟨hv, h0⟩ | ⟨g, cap, cur, hv, hbg, hg, hnc, hcm, hcs, ht⟩
  · omega
  · injection hv with h1 h2 h3
    subst h3
    refine ⟨g, cur.toList.drop (n * 1), h1, hbg, ?_, hnc⟩
    unfold Has
    rw [hg, ← ht, List.take_append_drop]
set_option maxRecDepth 100000 in
theorem line17 (n : Nat) (w : World) (hn : n ≤ 48) (h0 : 0 < n) :
    Calls Try.prog 42 #[.int .i64 (n : Int)] w fun e w' => ∃ g c rest, e = .returned (.slice (some ⟨g, 0, none⟩) n c) ∧ w.heap.size ≤ g ∧ n ≤ c ∧ Has w' g 3 ((lineL n).map vInt ++ rest) ∧ Below w.heap.size w w' := by
  go_enter Try.func42, Try.ntmps42
  go_wp2
  go_loopw [3, 4] (fun v i wr => ∃ (k : Nat) (A' : Option Addr) (c' : Nat), k ≤ n ∧ i = .int .i64 (k : Int) ∧ v = .slice A' k c' ∧ wr.ownsRow w.heap.size 3 1 v k ((lineL k).map vInt) ∧ Below w.heap.size w wr) (fun _ i _ => n - (intOf i).toNat)
  case atStart => exact ⟨0, none, 0, Nat.zero_le _, rfl, rfl, World.ownsRow_nil _ _ _ _, Below.refl _ _⟩
  case round =>
    obtain ⟨k, A', c', hk, rfl, rfl, hown, hb⟩ := hrel
    obtain ⟨wo, rfl⟩ : ∃ wo : World, wo = wr := ⟨_, rfl⟩
    have HO := Lib.hid hown; clear hown
    have hz := hb.size
    by_cases hlt : k < n
    · go_wp2_with (at_builtin; refine wpList_app rfl (.tmp 10) (.tmp 12) _ rfl w.heap.size 3 (.int .i64 0) 1 8 Try.underlying52 infoInt rfl (by omega) (by omega) _ _ _ rfl (HO.out.alloc _) wo.heap.size [vInt k] rfl rfl (news_new _ _ _) (one_int _ _) (by omega) (by simp; omega) ?_; intro ga cap1 w2 hg1 hown1 hgrow1 hor1)
      go_roundw
      case rel => exact ⟨k + 1, some ⟨ga, 0, none⟩, cap1, by omega, by go_num, rfl, by rw [lineL_succ]; simpa using hown1, (hb.alloc hz _).grown hgrow1 (by simp; omega) (fun kk hk => (HO.out.lt kk hk).1)⟩
      case measure => first | (simp [intOf]; done) | (simp [intOf]; omega)
    · obtain rfl : k = n := by omega
      obtain ⟨g, rest, rfl, h1, h2, h3⟩ := own_has HO.out h0
      go_wp2
      go_ret
      exact ⟨g, c', rest, rfl, h1, h3, h2, hb⟩
theorem row_set2 (L : List Int) (rest : List Value) (b a : Int) {i : Nat} (h : i + 1 < L.length) : ((L.map vInt ++ rest).set i (.int .i64 b)).set (i + 1) (.int .i64 a) = ((L.set i b).set (i + 1) a).map vInt ++ rest := by
  rw [List.set_append_left _ _ (by simp; omega), List.set_append_left _ _ (by simp; omega), List.map_set, List.map_set]
set_option maxRecDepth 100000 in
set_option maxHeartbeats 2000000 in
theorem ends17 (t : Int) (A B : Option Addr) (n c m d : Nat) (xs : List Q4) (w : World) (ht : t ≤ 48) (ht2 : 2 ≤ t) (hn : n ≤ 20000) (hx : RdQ w w.heap.size A xs) (hl : xs.length = n) (hok : ∀ x ∈ xs, okC t x = true) :
    Calls Try.prog 45 #[vCloth t A n c B m d] w fun e w' => ∃ A' n' c', e = .returned (.tuple #[.slice A' n' c', .bool (endsOk t xs)]) ∧ Below w.heap.size w w' := by
  have HX := Lib.hid hx; clear hx
  have HL := Lib.hid hl; clear hl
  have HOK := Lib.hid hok; clear hok
  obtain ⟨T, rfl⟩ := Int.eq_ofNat_of_zero_le (show 0 ≤ t by omega)
  have K0 : Has (w.alloc (.cells #[.int .i64 (T : Int), .slice A n c, .slice B m d] 49)) w.heap.size 49 [.int .i64 (T : Int), .slice A n c, .slice B m d] := Has.new rfl
  go_enter Try.func45, Try.ntmps45
  go_wp2_with fail
  refine (line17 T _ (by omega) (by omega)).mono ?_
  rintro e w1 ⟨g, cg, rest, rfl, hg, hgc, hG, hb1⟩
  have B1 : Below w.heap.size w w1 := bvia (by go_grown) hb1
  have HK := Lib.hid (K0.below hb1 K0.lt)
  have hgw : w.heap.size < g := by simp at hg; omega
  clear K0 hb1 hg
  go_wp2
  go_loopw [5] (fun i wr => ∃ (k : Nat) (L : List Int), k ≤ n ∧ i = .int .i64 (k : Int) ∧ endsTo xs (lineL T) k = some L ∧ L.length = T ∧ Has wr g 3 (L.map vInt ++ rest) ∧ Has wr w.heap.size 49 [.int .i64 (T : Int), .slice A n c, .slice B m d] ∧ Below w.heap.size w wr) (fun i _ => n - (intOf i).toNat)
  case atStart => exact ⟨0, lineL T, Nat.zero_le _, rfl, rfl, lineL_len T, hG, HK.out, B1⟩
  case round =>
    clear hG B1
    obtain ⟨k, L, hk, rfl, hE, hLT, hG, hK, hb⟩ := hrel
    obtain ⟨wo, rfl⟩ : ∃ wo : World, wo = wr := ⟨_, rfl⟩
    have HE := Lib.hid hE; clear hE
    have HLT := Lib.hid hLT; clear hLT
    have a0 : wo.cell? ⟨w.heap.size, 0, none⟩ = some (.int .i64 (T : Int)) := hK.cell 0
    have a1 : wo.cell? ⟨w.heap.size, 1, none⟩ = some (.slice A n c) := hK.cell 1
    have q := hK.lt
    have qg := hG.lt
    have HKw := Lib.hid hK; clear hK
    have HGw := Lib.hid hG; clear hG
    by_cases hlt : k < n
    · obtain ⟨x, hx⟩ := get_of_lt (l := xs) (k := k) (by rw [HL.out]; exact hlt)
      obtain ⟨ba, o, rfl, hba, c0, c1, c2, c3⟩ := (HX.out.below hb hb.size) _ x hx
      have hxo := HOK.out x (mem_of_get hx)
      unfold okC at hxo
      simp at hxo
      obtain ⟨i, hi⟩ := Int.eq_ofNat_of_zero_le hxo.1.1
      have hiT : i + 1 < T := by have := hxo.1.2; omega
      obtain ⟨a, ha⟩ := get_of_lt (l := L) (k := i) (by rw [HLT.out]; omega)
      obtain ⟨b, hb'⟩ := get_of_lt (l := L) (k := i + 1) (by rw [HLT.out]; exact hiT)
      have HES : Hid (endsTo xs (lineL T) (k + 1) = if endOk a b x then some ((L.set i b).set (i + 1) a) else none) := by
        show endsTo xs (lineL T) (k + 1) = _
        rw [endsTo_succ HE.out hx]
        exact endStep_get (by rw [hi]; simp) ha hb'
      have r0 : wo.cell? ⟨g, i, none⟩ = some (.int .i64 a) := by
        rw [HGw.out.cell, List.getElem?_append_left (by simp [HLT.out]; omega), List.getElem?_map, ha]; rfl
      have r1 : wo.cell? ⟨g, i + 1, none⟩ = some (.int .i64 b) := by
        rw [HGw.out.cell, List.getElem?_append_left (by simp [HLT.out]; omega), List.getElem?_map, hb']; rfl
      rw [hi] at c1
      have HI := Lib.hid hi
      clear hx hxo ha hb' hi
      have i1 : IntKind.i64.wrap ((i : Int) + 1) = (i : Int) + 1 := IntWalk.i64_in _ (by omega)
      have i2 : ((i : Int) + 1).toNat = i + 1 := by omega
      have i3 : (0 : Int) ≤ (i : Int) + 1 := by omega
      have i4 : (i : Int) + 1 < (T : Int) := by omega
      have i5 : i < T := by omega
      go_wp2
      have x1 : (wo.alloc (.cells #[.int .i64 x.a, .int .i64 (i : Int), .int .i64 x.c, .int .i64 x.d] 83)).cell? ⟨wo.heap.size, 1, none⟩ = some (.int .i64 (i : Int)) := by go_simp
      have x2 : (wo.alloc (.cells #[.int .i64 x.a, .int .i64 (i : Int), .int .i64 x.c, .int .i64 x.d] 83)).cell? ⟨wo.heap.size, 2, none⟩ = some (.int .i64 x.c) := by go_simp
      have x3 : (wo.alloc (.cells #[.int .i64 x.a, .int .i64 (i : Int), .int .i64 x.c, .int .i64 x.d] 83)).cell? ⟨wo.heap.size, 3, none⟩ = some (.int .i64 x.d) := by go_simp
      have hBW : Below wo.heap.size wo (wo.alloc (.cells #[.int .i64 x.a, .int .i64 (i : Int), .int .i64 x.c, .int .i64 x.d] 83)) := by go_grown
      have qx : wo.heap.size < (wo.alloc (.cells #[.int .i64 x.a, .int .i64 (i : Int), .int .i64 x.c, .int .i64 x.d] 83)).heap.size := by simp
      generalize (wo.alloc (.cells #[.int .i64 x.a, .int .i64 (i : Int), .int .i64 x.c, .int .i64 x.d] 83)) = W1 at *
      have qg1 : g < W1.heap.size := by omega
      have s0 := (hBW.cell (p := ⟨g, i, none⟩) qg).trans r0
      have s1 := (hBW.cell (p := ⟨g, i + 1, none⟩) qg).trans r1
      clear r0 r1
      have hxc := fun (x : Ext W1) => x.cell
      refine wp_region_ext (by kernel_rfl) (by kernel_rfl) ?_
      repeat (go_big_quiet_step (fail))
      refine wpQuiet_nil ?_
      intro w2 hw'
      have hb2 := ext_below hw'
      clear hw' hxc
      have y1 := (hb2.cell (p := ⟨wo.heap.size, 1, none⟩) qx).trans x1
      have y2 := (hb2.cell (p := ⟨wo.heap.size, 2, none⟩) qx).trans x2
      have y3 := (hb2.cell (p := ⟨wo.heap.size, 3, none⟩) qx).trans x3
      have z0 := (hb2.cell (p := ⟨g, i, none⟩) qg1).trans s0
      have z1 := (hb2.cell (p := ⟨g, i + 1, none⟩) qg1).trans s1
      have hB2 : Below wo.heap.size wo w2 := bvia hBW hb2
      have B2 : Below w.heap.size w w2 := bvia hb hB2
      have G2 := Lib.hid (HGw.out.below hB2 qg)
      have K2 := Lib.hid (HKw.out.below hB2 q)
      have qx2 : wo.heap.size < w2.heap.size := by have := hb2.size; omega
      have qg2 := G2.out.lt
      have fg := G2.out.free i
      have fg1 := G2.out.free (i + 1)
      have nz1 : g ≠ wo.heap.size := by omega
      have nz2 : wo.heap.size ≠ g := by omega
      clear x1 x2 x3 s0 s1 hb2 hBW qx qg1 a0 a1
      by_cases hA : a = x.c ∧ b = x.d
      · obtain ⟨e1, e2⟩ := hA
        have f1 : (a != x.c) = false := by simpa using e1
        have f2 : (b != x.d) = false := by simpa using e2
        have hOKb : endOk a b x = true := by unfold endOk; rw [e1, e2]; simp
        clear e1 e2
        go_wp2
        have hEq : Hid (endsTo xs (lineL T) (k + 1) = some ((L.set i b).set (i + 1) a)) := by
          show endsTo xs (lineL T) (k + 1) = _
          rw [HES.out, if_pos hOKb]
        go_region_held3 (fun W => W.cell? ⟨wo.heap.size, 1, none⟩ = some (.int .i64 (i : Int))) (go_keep) (fail)
        go_wp2
        go_roundw
        case rel =>
          have h1 := ((G2.out.set i (.int .i64 b)).set (i + 1) (.int .i64 a))
          rw [row_set2 L rest b a (by rw [HLT.out]; exact hiT)] at h1
          refine ⟨k + 1, (L.set i b).set (i + 1) a, by omega, by go_num, hEq.out, by rw [List.length_set, List.length_set, HLT.out], h1.drew, ((K2.out.far (by omega) i _).far (by omega) (i + 1) _).drew, (((B2.setCell (by simp; omega) _).setCell (by simp; omega) _)).drew⟩
        case measure => first | (simp [intOf]; done) | (simp [intOf]; omega)
      · by_cases hB' : b = x.c ∧ a = x.d
        · obtain ⟨e1, e2⟩ := hB'
          have f0 : (a != x.c) = true := by simp; intro h; exact hA ⟨h, by rw [e1, ← h, e2]⟩
          have f1 : (b != x.c) = false := by simpa using e1
          have f2 : (a != x.d) = false := by simpa using e2
          have hOKb : endOk a b x = true := by unfold endOk; rw [e1, e2]; simp
          clear e1 e2 hA
          go_wp2
          have hEq : Hid (endsTo xs (lineL T) (k + 1) = some ((L.set i b).set (i + 1) a)) := by
            show endsTo xs (lineL T) (k + 1) = _
            rw [HES.out, if_pos hOKb]
          go_region_held3 (fun W => W.cell? ⟨wo.heap.size, 1, none⟩ = some (.int .i64 (i : Int))) (go_keep) (fail)
          go_wp2
          go_roundw
          case rel =>
            have h1 := ((G2.out.set i (.int .i64 b)).set (i + 1) (.int .i64 a))
            rw [row_set2 L rest b a (by rw [HLT.out]; exact hiT)] at h1
            refine ⟨k + 1, (L.set i b).set (i + 1) a, by omega, by go_num, hEq.out, by rw [List.length_set, List.length_set, HLT.out], h1.drew, ((K2.out.far (by omega) i _).far (by omega) (i + 1) _).drew, (((B2.setCell (by simp; omega) _).setCell (by simp; omega) _)).drew⟩
          case measure => first | (simp [intOf]; done) | (simp [intOf]; omega)
        · have hF : Hid (endsOk (T : Int) xs = false) := by
            show endsOk (T : Int) xs = false
            have : endOk a b x = false := by
              unfold endOk
              simp only [Bool.or_eq_false_iff, Bool.and_eq_false_iff, beq_eq_false_iff_ne]
              omega
            unfold endsOk
            rw [Int.toNat_natCast, endsTo_none (by rw [HES.out, this]; rfl) xs.length (by rw [HL.out]; omega)]
            rfl
          by_cases e1 : a = x.c
          · have f0 : (a != x.c) = false := by simpa using e1
            have f1 : (b != x.d) = true := by simp; intro h; exact hA ⟨e1, h⟩
            by_cases e2 : b = x.c
            · have f2 : (b != x.c) = false := by simpa using e2
              have f3 : (a != x.d) = true := by simp; intro h; exact hB' ⟨e2, h⟩
              clear e1 e2 hA hB'
              go_wp2
              go_ret2
              exact ⟨none, 0, 0, by rw [hF.out]; rfl, B2⟩
            · have f2 : (b != x.c) = true := by simpa using e2
              clear e1 e2 hA hB'
              go_wp2
              go_ret2
              exact ⟨none, 0, 0, by rw [hF.out]; rfl, B2⟩
          · have f0 : (a != x.c) = true := by simpa using e1
            by_cases e2 : b = x.c
            · have f2 : (b != x.c) = false := by simpa using e2
              have f3 : (a != x.d) = true := by simp; intro h; exact hB' ⟨e2, h⟩
              clear e1 e2 hA hB'
              go_wp2
              go_ret2
              exact ⟨none, 0, 0, by rw [hF.out]; rfl, B2⟩
            · have f2 : (b != x.c) = true := by simpa using e2
              clear e1 e2 hA hB'
              go_wp2
              go_ret2
              exact ⟨none, 0, 0, by rw [hF.out]; rfl, B2⟩
    · obtain rfl : k = n := by omega
      have hF : Hid (endsOk (T : Int) xs = true) := by
        show endsOk (T : Int) xs = true
        unfold endsOk
        rw [Int.toNat_natCast, HL.out, HE.out]; rfl
      go_wp2
      go_ret2
      exact ⟨some ⟨g, 0, none⟩, T, cg, by rw [hF.out]; rfl, hb⟩
/-- the error of a cloth -/
def ckE (t : Int) (xs ps : List Q4) : Int := if 48 < t ∨ 20000 < xs.length ∨ 6400 < ps.length then 3 else if numsOk t xs ps = false then 2 else if endsOk t xs = false then 6 else 0
theorem numsOk_parts {t : Int} {xs ps : List Q4} (h : numsOk t xs ps = true) : 2 ≤ t ∧ (∀ x ∈ xs, okC t x = true) ∧ (∀ x ∈ ps, okP t x = true) := by
  unfold numsOk at h
  simp only [Bool.and_eq_true, decide_eq_true_eq, List.all_eq_true] at h
  exact ⟨h.1.1, h.1.2, h.2⟩
set_option maxRecDepth 100000 in
set_option maxHeartbeats 1000000 in
theorem check17 (t : Int) (A B : Option Addr) (n c m d : Nat) (xs ps : List Q4) (w : World) (hn : n ≤ 9223372036854775807) (hm : m ≤ 9223372036854775807) (hx : RdQ w w.heap.size A xs) (hp : RdQ w w.heap.size B ps) (hl : xs.length = n) (hl' : ps.length = m) (ht0 : -9223372036854775808 ≤ t) :
    Calls Try.prog 44 #[vCloth t A n c B m d] w fun e w' => e = .returned (.int .i64 (ckE t xs ps)) ∧ Below w.heap.size w w' := by
  have HX := Lib.hid hx; clear hx
  have HP := Lib.hid hp; clear hp
  by_cases h1 : 48 < t
  · have e : ckE t xs ps = 3 := by unfold ckE; rw [if_pos (.inl h1)]
    rw [e]; clear e
    go_enter Try.func44, Try.ntmps44
    go_wp2
    go_ret
    exact ⟨rfl, by go_grown⟩
  by_cases h2 : 20000 < (n : Int)
  · have e : ckE t xs ps = 3 := by unfold ckE; rw [if_pos (.inr (.inl (by omega)))]
    rw [e]; clear e
    go_enter Try.func44, Try.ntmps44
    go_wp2
    go_ret
    exact ⟨rfl, by go_grown⟩
  by_cases h3 : 6400 < (m : Int)
  · have e : ckE t xs ps = 3 := by unfold ckE; rw [if_pos (.inr (.inr (by omega)))]
    rw [e]; clear e
    go_enter Try.func44, Try.ntmps44
    go_wp2
    go_ret
    exact ⟨rfl, by go_grown⟩
  have e : ckE t xs ps = if numsOk t xs ps = false then 2 else if endsOk t xs = false then 6 else 0 := by unfold ckE; rw [if_neg (by omega)]
  rw [e]; clear e
  have ht : t ≤ 48 := by omega
  have C1 := Lib.hid (fun (W : World) (hb : Below w.heap.size w W) => numbers17 t A B n c m d xs ps W ht (by omega) (by omega) (HX.out.up hb) (HP.out.up hb) hl hl' ht0)
  have d1 : decide (48 < t) = false := decide_eq_false h1
  have d2 : decide ((20000 : Int) < n) = false := decide_eq_false h2
  have d3 : decide ((6400 : Int) < m) = false := decide_eq_false h3
  have K0 : Has (w.alloc (.cells #[.int .i64 t, .slice A n c, .slice B m d] 49)) w.heap.size 49 [.int .i64 t, .slice A n c, .slice B m d] := Has.new rfl
  cases hN : numsOk t xs ps with
  | false =>
    rw [hN] at C1
    rw [if_pos rfl]
    clear h1 h2 h3
    go_enter Try.func44, Try.ntmps44
    go_wp2_with fail
    refine (C1.out _ (by go_grown)).mono ?_
    rintro e w1 ⟨rfl, hb1⟩
    go_wp2
    go_ret
    exact ⟨rfl, bvia (by go_grown) hb1⟩
  | true =>
    rw [hN] at C1
    rw [if_neg (by simp)]
    obtain ⟨g1, g2, g3⟩ := numsOk_parts hN
    have hn2 : n ≤ 20000 := by omega
    have C2 := Lib.hid (fun (W : World) (hb : Below w.heap.size w W) => ends17 t A B n c m d xs W ht g1 hn2 (HX.out.up hb) hl g2)
    clear h1 h2 h3 g1 g2 g3
    generalize endsOk t xs = q at *
    go_enter Try.func44, Try.ntmps44
    go_wp2_with fail
    refine (C1.out _ (by go_grown)).mono ?_
    rintro e w1 ⟨rfl, hb1⟩
    have B1 : Below w.heap.size w w1 := bvia (by go_grown) hb1
    have K1 := K0.below hb1 K0.lt
    have a0 : w1.cell? ⟨w.heap.size, 0, none⟩ = some (.int .i64 t) := K1.cell 0
    have a1 : w1.cell? ⟨w.heap.size, 1, none⟩ = some (.slice A n c) := K1.cell 1
    have a2 : w1.cell? ⟨w.heap.size, 2, none⟩ = some (.slice B m d) := K1.cell 2
    clear K0 K1
    go_wp2_with fail
    refine (C2.out _ B1).mono ?_
    rintro e w2 ⟨A', n', c', rfl, hb2⟩
    cases q with
    | true =>
      go_wp2
      go_ret
      exact ⟨rfl, bvia B1 hb2⟩
    | false =>
      go_wp2
      go_ret
      exact ⟨rfl, bvia B1 hb2⟩
end Go.Proofs.Ytdimfbmbomgiaaa
