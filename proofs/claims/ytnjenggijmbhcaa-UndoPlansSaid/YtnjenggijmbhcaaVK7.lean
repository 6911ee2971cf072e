/-
  A range over a function, at the wide fence, for an iterator that writes memory of its caller's between two rounds: the caller says what holds between two rounds (I) and behind a round that returned (Ix); the iterator is asked for these two alone.
-/
import Derived.Test.YtnjenggijmbhcaaVK2
import Derived.RangeFuncNested
import Derived.RangeFuncBound
import Derived.RangeFuncCalls
import Derived.RangeFuncLeaves
namespace Go.Proofs.Ytnjenggijmbhcaa
open Go.RowKit
/-- a round that goes on leaves all old blocks but the loop's record -/
def KeepBut (l : Nat) (A B : World) : Prop := A.heap.size ≤ B.heap.size ∧ ∀ r, r < A.heap.size → r ≠ l → B.heap[r]? = A.heap[r]?
theorem KeepBut.trans {l : Nat} {A B C : World} (h : KeepBut l A B) (k : KeepBut l B C) : KeepBut l A C :=
  ⟨Nat.le_trans h.1 k.1, fun r hr hl => (k.2 r (Nat.lt_of_lt_of_le hr h.1) hl).trans (h.2 r hr hl)⟩
theorem KeepBut.put (l : Nat) (A : World) (o : Obj) : KeepBut l A (A.putObj l o) :=
  ⟨Nat.le_of_eq (by simp [World.putObj]), fun r _ hl => World.putObj_heap_other hl⟩
/-- .. a round that leaves may have turned one block more -/
def KeepBut2 (l b : Nat) (A B : World) : Prop := A.heap.size ≤ B.heap.size ∧ ∀ r, r < A.heap.size → r ≠ l → r ≠ b → B.heap[r]? = A.heap[r]?
theorem KeepBut.two {l b : Nat} {A B : World} (h : KeepBut l A B) : KeepBut2 l b A B := ⟨h.1, fun r hr hl _ => h.2 r hr hl⟩
theorem KeepBut2.trans {l b : Nat} {A B C : World} (h : KeepBut2 l b A B) (k : KeepBut2 l b B C) : KeepBut2 l b A C :=
  ⟨Nat.le_trans h.1 k.1, fun r hr hl hb => (k.2 r (Nat.lt_of_lt_of_le hr h.1) hl hb).trans (h.2 r hr hl hb)⟩
/-- what the iterator is told of the state between two rounds: I, the loop's record and the block of its deferred calls -/
structure Mid {α : Type} (I : List α → World → Prop) (l d : Nat) (rc : Loop) (pre : List α) (W : World) : Prop where
  inv : I pre W
  rec_ : W.heap[l]? = some (.loop rc)
  dfr : W.heap[d]? = some (.deferred (some []))
theorem Mid.go {α : Type} {I : List α → World → Prop} {l d : Nat} {rc : Loop} {pre : List α} {W W' : World} (h : Mid I l d rc pre W) (hk : KeepsOthers W W') (hi : I pre W') : Mid I l d rc pre W' :=
  ⟨hi, hk.same _ _ h.rec_ rfl, hk.same _ _ h.dfr rfl⟩
theorem range_law {P : Program} {n : Nat} {g : Operand} {ps : Array Tmp} {assign body : Code} {Q : Exit → Act → World → Prop} {a : Act} {w : World} {gf : Nat} {lb : Array Value}
    (hg : a.eval g = .func (.func gf) #[] lb) (eg : ∀ args w, (callFunc gf args).run P w = .ok (.enter gf args) w)
    {α : Type} (encs : α → Array Value) (hps : ∀ x, (encs x).size = ps.size)
    (I Ix : List α → World → Prop) (S Sp : List α → Prop) (bR : Nat)
    (hI : OwnFrom w.heap.size I) (hIx : OwnFrom w.heap.size Ix) (h0 : I [] w)
    (hiter : ∀ (l d : Nat) (r0 r1 : Loop) (W : World), w.heap.size ≤ d → d < l → KeepBut l w W → Mid I l d r0 [] W →
      (∀ pre x W1, Mid I l d r0 pre W1 → YieldAt Fence.wide n P l (encs x) W1 fun e W' => (e = .returned (.bool true) ∧ Mid I l d r0 (pre ++ [x]) W' ∧ KeepBut l W1 W') ∨ (e = .returned (.bool false) ∧ Mid Ix l d r1 (pre ++ [x]) W' ∧ KeepBut2 l bR W1 W')) →
      CallsIn Fence.wide n P gf (#[.func (.yield l) #[] #[]] ++ lb) W fun e W' => (∃ v, e = .returned v) ∧ ((∃ xs, S xs ∧ Mid I l d r0 xs W') ∨ (∃ xs, Sp xs ∧ Mid Ix l d r1 xs W')))
    (hround : ∀ (l : Nat) (pre : List α) (x : α) (W : World) (o : Obj), w.heap.size < l → I pre W → W.heap[l]? = some o → o.isCells = false →
      assign.wpIn (Fence.wide.inRound l) n P (Exit.then (fun a₁ W1 => KeepsOthers W W1 ∧ KeepBut l W W1 ∧ ∀ o', o'.isCells = false → body.wpIn (Fence.wide.inRound l) n P (fun e _ W3 => match e with
          | .normal => KeepsOthers (W1.putObj l o') W3 ∧ KeepBut l (W1.putObj l o') W3 ∧ I (pre ++ [x]) W3
          | .ret => KeepsOthers (W1.putObj l o') W3 ∧ KeepBut2 l bR (W1.putObj l o') W3 ∧ Ix (pre ++ [x]) W3
          | _ => False) a₁ (W1.putObj l o')) (fun _ _ _ => False)) { tmps := (ps.zip (encs x)).foldl (fun t (p, v) => t.setIfInBounds p v) a.tmps, defers := [] } W)
    (hdone : ∀ (D : Nat) (xs : List α) (W : World), w.heap.size ≤ D → S xs → I xs W → W.heap[D]? = some (.deferred (some [])) → Q .normal { a with defers := { target := .collected D, args := #[] } :: a.defers } W)
    (hstop : ∀ (D : Nat) (xs : List α) (W : World), w.heap.size ≤ D → Sp xs → Ix xs W → W.heap[D]? = some (.deferred (some [])) → Code.ret.wpIn Fence.wide n P Q { a with defers := { target := .collected D, args := #[] } :: a.defers } W) :
    (Code.rangeFunc g ps assign body).wpIn Fence.wide n P Q a w := by
  refine wpIn_rangeFunc fun fn hfn => ?_
  obtain ⟨rc, hrc⟩ : ∃ rc : LoopState → Option Code → Loop, rc = fun st pe => { state := st, pending := pe, fn := fn, tmps := a.tmps, params := ps, assign := assign, body := body, defers := w.heap.size } := ⟨_, rfl⟩
  have hent := run_enterLoop_outer (P := P) (w := w) fn a.tmps ps assign body
  have hb1 : KeepBut (w.heap.size + 1) w ((w.alloc (.deferred (some []))).alloc (.loop (rc .ready none))) :=
    ⟨by simp; omega, fun r hr _ => (Below.heap_alloc _ _ r (by simp; omega)).trans (Below.heap_alloc w _ r hr)⟩
  have hL1 : ((w.alloc (.deferred (some []))).alloc (.loop (rc .ready none))).heap[w.heap.size + 1]? = some (.loop (rc .ready none)) := by
    have := World.alloc_heap_new (w.alloc (.deferred (some []))) (.loop (rc .ready none)); rwa [World.size_alloc] at this
  have hD1 : ((w.alloc (.deferred (some []))).alloc (.loop (rc .ready none))).heap[w.heap.size]? = some (.deferred (some [])) :=
    (Below.heap_alloc _ _ _ (by simp)).trans (World.alloc_heap_new w _)
  have hI1 : I [] ((w.alloc (.deferred (some []))).alloc (.loop (rc .ready none))) := hI.alloc _ (hI.alloc _ h0)
  refine ⟨w.heap.size + 1, [{ target := .collected w.heap.size, args := #[] }], ((w.alloc (.deferred (some []))).alloc (.loop (rc .ready none))), { target := .fn (.func gf) lb, args := #[.func (.yield (w.heap.size + 1)) #[] #[]] }, _, gf,
    #[.func (.yield (w.heap.size + 1)) #[] #[]] ++ lb, _, by rw [hrc]; exact hent, by simp only [resolve, hg]; simp [go_sem]; rfl, fun _ _ => trivial, by simp [invoke, go_sem, eg]; rfl, fun h => by simp [Fence.wide] at h, ?_⟩
  subst hrc
  refine callsIn_wide.2 (callsIn_wide.1 ((hiter (w.heap.size + 1) w.heap.size _ ({ state := .done, pending := some .ret, fn := fn, tmps := a.tmps, params := ps, assign := assign, body := body, defers := w.heap.size }) _ (Nat.le_refl _) (Nat.lt_succ_self _) hb1 ⟨hI1, hL1, hD1⟩ ?_).mono ?_))
  · rintro pre x W ⟨hi, hl, hk⟩
    refine ⟨fn, _, assign, body, run_yield (P := P) (args := encs x) hl (hps x), roundIn_of_wpIn hfn ?_⟩
    refine wpIn_mono (hround (w.heap.size + 1) pre x W _ (Nat.lt_succ_self _) hi hl rfl) ?_
    rintro e a1 W1 hp
    cases e with
    | normal =>
      obtain ⟨hko, hkb, hbd⟩ := hp
      have hl1 := hko.same _ _ hl rfl
      have hk1 := hko.same _ _ hk rfl
      have hlt := (Array.getElem?_eq_some_iff.1 hl1).1
      refine ⟨_, run_beginRound hl1 rfl, wpIn_mono (hbd _ rfl) ?_⟩
      rintro e a3 W3 hq
      cases e with
      | normal =>
        obtain ⟨hk3, hb3, hi3⟩ := hq
        have hl3 := hk3.same _ _ (World.putObj_heap_same hlt) rfl
        have hd3 := hk3.same _ _ ((World.putObj_heap_other (by omega)).trans hk1) rfl
        refine ⟨_, _, run_endRound none hl3, .inl ⟨rfl, ⟨hI.putObj _ hi3 (by omega) hl3 rfl, World.putObj_heap_same (Array.getElem?_eq_some_iff.1 hl3).1, (World.putObj_heap_other (by omega)).trans hd3⟩, ?_⟩⟩
        exact ((hkb.trans (KeepBut.put _ _ _)).trans hb3).trans (KeepBut.put _ _ _)
      | ret =>
        obtain ⟨hk3, hb3, hi3⟩ := hq
        have hl3 := hk3.same _ _ (World.putObj_heap_same hlt) rfl
        have hd3 := hk3.same _ _ ((World.putObj_heap_other (by omega)).trans hk1) rfl
        exact ⟨_, _, run_endRound (some .ret) hl3, .inr ⟨rfl, ⟨hIx.putObj _ hi3 (by omega) hl3 rfl, World.putObj_heap_same (Array.getElem?_eq_some_iff.1 hl3).1, (World.putObj_heap_other (by omega)).trans hd3⟩, (((hkb.trans (KeepBut.put _ _ _)).two).trans hb3).trans (KeepBut.put _ _ _).two⟩⟩
      | exit id => exact hq.elim
      | goto t => exact hq.elim
      | panic ch => exact hq.elim
      | outgrown => exact hq.elim
    | ret => exact hp.elim
    | exit id => exact hp.elim
    | goto t => exact hp.elim
    | panic ch => exact hp.elim
    | outgrown => exact hp.elim
  · rintro e W2 ⟨⟨v, rfl⟩, (⟨xs, hS, hm⟩ | ⟨xs, hSp, hm⟩)⟩
    · exact ⟨none, _, run_endLoop (P := P) hm.rec_ (by simp), hdone _ xs _ (Nat.le_refl _) hS (hI.putObj _ hm.inv (by omega) hm.rec_ rfl) ((World.putObj_heap_other (by omega)).trans hm.dfr)⟩
    · exact ⟨some .ret, _, run_endLoop (P := P) hm.rec_ (by simp), hstop _ xs _ (Nat.le_refl _) hSp (hIx.putObj _ hm.inv (by omega) hm.rec_ rfl) ((World.putObj_heap_other (by omega)).trans hm.dfr)⟩
end Go.Proofs.Ytnjenggijmbhcaa
/-
  A range over a function whose body writes: the caller says what holds between two rounds (I), what a round may change (K), and is told of each value's memory (Ok).
-/
namespace Go.Proofs.Ytnjenggijmbhcaa
open Go.RowKit
theorem range_lawK {P : Program} {n : Nat} {g : Operand} {ps : Array Tmp} {assign body : Code} {Q : Exit → Act → World → Prop} {a : Act} {w : World} {gf : Nat} {lb : Array Value}
    (hg : a.eval g = .func (.func gf) #[] lb) (eg : ∀ args w, (callFunc gf args).run P w = .ok (.enter gf args) w)
    {α : Type} (encs : α → Array Value) (hps : ∀ x, (encs x).size = ps.size)
    (I : Nat → List α → World → Prop) (S : List α → Prop) (Ok : Nat → List α → α → World → Prop) (K : Nat → Nat → World → World → Prop) (hKt : ∀ l hi A B C, K l hi A B → K l hi B C → K l hi A C) (hKp : ∀ l hi (A : World) o o', A.heap[l]? = some o → o.isCells = false → K l hi A (A.putObj l o'))
    (hI : ∀ hi, OwnFrom w.heap.size (I hi)) (h0 : I w.heap.size [] w)
    (hiter : ∀ (l d : Nat) (r0 : Loop) (W : World), w.heap.size ≤ d → d < l → KeepBut l w W → Mid (I w.heap.size) l d r0 [] W →
      (∀ hi pre x W1, Ok hi pre x W1 → hi ≤ W1.heap.size → Mid (I hi) l d r0 pre W1 → YieldAt Fence.wide n P l (encs x) W1 fun e W' => e = .returned (.bool true) ∧ Mid (I W'.heap.size) l d r0 (pre ++ [x]) W' ∧ K l hi W1 W') →
      CallsIn Fence.wide n P gf (#[.func (.yield l) #[] #[]] ++ lb) W fun e W' => (∃ v, e = .returned v) ∧ (∃ hi xs, S xs ∧ Mid (I hi) l d r0 xs W'))
    (hround : ∀ (hi l : Nat) (pre : List α) (x : α) (W : World) (o : Obj), Ok hi pre x W → w.heap.size < l → hi ≤ W.heap.size → I hi pre W → W.heap[l]? = some o → o.isCells = false →
      assign.wpIn (Fence.wide.inRound l) n P (Exit.then (fun a₁ W1 => KeepsOthers W W1 ∧ K l hi W W1 ∧ ∀ o', o'.isCells = false → body.wpIn (Fence.wide.inRound l) n P (fun e _ W3 => match e with
          | .normal => KeepsOthers (W1.putObj l o') W3 ∧ K l hi (W1.putObj l o') W3 ∧ I W3.heap.size (pre ++ [x]) W3
          | _ => False) a₁ (W1.putObj l o')) (fun _ _ _ => False)) { tmps := (ps.zip (encs x)).foldl (fun t (p, v) => t.setIfInBounds p v) a.tmps, defers := [] } W)
    (hdone : ∀ (D hi : Nat) (xs : List α) (W : World), w.heap.size ≤ D → S xs → I hi xs W → W.heap[D]? = some (.deferred (some [])) → Q .normal { a with defers := { target := .collected D, args := #[] } :: a.defers } W) :
    (Code.rangeFunc g ps assign body).wpIn Fence.wide n P Q a w := by
  refine wpIn_rangeFunc fun fn hfn => ?_
  obtain ⟨rc, hrc⟩ : ∃ rc : LoopState → Option Code → Loop, rc = fun st pe => { state := st, pending := pe, fn := fn, tmps := a.tmps, params := ps, assign := assign, body := body, defers := w.heap.size } := ⟨_, rfl⟩
  have hent := run_enterLoop_outer (P := P) (w := w) fn a.tmps ps assign body
  have hb1 : KeepBut (w.heap.size + 1) w ((w.alloc (.deferred (some []))).alloc (.loop (rc .ready none))) :=
    ⟨by simp; omega, fun r hr _ => (Below.heap_alloc _ _ r (by simp; omega)).trans (Below.heap_alloc w _ r hr)⟩
  have hL1 : ((w.alloc (.deferred (some []))).alloc (.loop (rc .ready none))).heap[w.heap.size + 1]? = some (.loop (rc .ready none)) := by
    have := World.alloc_heap_new (w.alloc (.deferred (some []))) (.loop (rc .ready none)); rwa [World.size_alloc] at this
  have hD1 : ((w.alloc (.deferred (some []))).alloc (.loop (rc .ready none))).heap[w.heap.size]? = some (.deferred (some [])) :=
    (Below.heap_alloc _ _ _ (by simp)).trans (World.alloc_heap_new w _)
  have hI1 : I w.heap.size [] ((w.alloc (.deferred (some []))).alloc (.loop (rc .ready none))) := (hI _).alloc _ ((hI _).alloc _ h0)
  refine ⟨w.heap.size + 1, [{ target := .collected w.heap.size, args := #[] }], ((w.alloc (.deferred (some []))).alloc (.loop (rc .ready none))), { target := .fn (.func gf) lb, args := #[.func (.yield (w.heap.size + 1)) #[] #[]] }, _, gf,
    #[.func (.yield (w.heap.size + 1)) #[] #[]] ++ lb, _, by rw [hrc]; exact hent, by simp only [resolve, hg]; simp [go_sem]; rfl, fun _ _ => trivial, by simp [invoke, go_sem, eg]; rfl, fun h => by simp [Fence.wide] at h, ?_⟩
  subst hrc
  refine callsIn_wide.2 (callsIn_wide.1 ((hiter (w.heap.size + 1) w.heap.size _ _ (Nat.le_refl _) (Nat.lt_succ_self _) hb1 ⟨hI1, hL1, hD1⟩ ?_).mono ?_))
  · rintro top pre x W hok htop ⟨hi, hl, hk⟩
    refine ⟨fn, _, assign, body, run_yield (P := P) (args := encs x) hl (hps x), roundIn_of_wpIn hfn ?_⟩
    refine wpIn_mono (hround top (w.heap.size + 1) pre x W _ hok (Nat.lt_succ_self _) htop hi hl rfl) ?_
    rintro e a1 W1 hp
    cases e with
    | normal =>
      obtain ⟨hko, hkb, hbd⟩ := hp
      have hl1 := hko.same _ _ hl rfl
      have hk1 := hko.same _ _ hk rfl
      have hlt := (Array.getElem?_eq_some_iff.1 hl1).1
      refine ⟨_, run_beginRound hl1 rfl, wpIn_mono (hbd _ rfl) ?_⟩
      rintro e a3 W3 hq
      cases e with
      | normal =>
        obtain ⟨hk3, hb3, hi3⟩ := hq
        have hl3 := hk3.same _ _ (World.putObj_heap_same hlt) rfl
        have hd3 := hk3.same _ _ ((World.putObj_heap_other (by omega)).trans hk1) rfl
        refine ⟨_, _, run_endRound none hl3, ⟨rfl, ⟨?_, World.putObj_heap_same (Array.getElem?_eq_some_iff.1 hl3).1, (World.putObj_heap_other (by omega)).trans hd3⟩, ?_⟩⟩
        · have hz : ∀ o, (W3.putObj (w.heap.size + 1) o).heap.size = W3.heap.size := fun o => by simp [World.putObj]
          rw [hz]
          exact (hI _).putObj _ hi3 (by omega) hl3 rfl
        · exact hKt _ _ _ _ _ (hKt _ _ _ _ _ (hKt _ _ _ _ _ hkb (hKp _ _ _ _ _ hl1 rfl)) hb3) (hKp _ _ _ _ _ hl3 rfl)
      | ret => exact hq.elim
      | exit id => exact hq.elim
      | goto t => exact hq.elim
      | panic ch => exact hq.elim
      | outgrown => exact hq.elim
    | ret => exact hp.elim
    | exit id => exact hp.elim
    | goto t => exact hp.elim
    | panic ch => exact hp.elim
    | outgrown => exact hp.elim
  · rintro e W2 ⟨⟨v, rfl⟩, ⟨hi, xs, hS, hm⟩⟩
    exact ⟨none, _, run_endLoop (P := P) hm.rec_ (by simp), hdone _ hi xs _ (Nat.le_refl _) hS ((hI _).putObj _ hm.inv (by omega) hm.rec_ rfl) ((World.putObj_heap_other (by omega)).trans hm.dfr)⟩
end Go.Proofs.Ytnjenggijmbhcaa
