/-
  Iterators of slices.Backward and slices.All over ints, for a loop whose rounds write rows of works and one block more.
-/
import Derived.Test.YtnjenggijmbhcaaVK7
import Derived.Test.YtnjenggijmbhcaaVK29
namespace Go.Proofs.Ytnjenggijmbhcaa
open Go.RowKit
/-- all blocks of W0 but lb, and but rows of works from w0 on, are as they were; lb holds cells -/
structure Agree (w0 lb : Nat) (W0 W : World) : Prop where
  low : w0 ≤ W0.heap.size
  size : W0.heap.size ≤ W.heap.size
  same : ∀ r, r < W0.heap.size → r ≠ lb → (r < w0 ∨ ∀ cs fr, W0.heap[r]? ≠ some (.cells cs 26 fr)) → W.heap[r]? = W0.heap[r]?
  box : ∃ o, W.heap[lb]? = some o ∧ o.isCells = true
/-- what a round leaves: all but the loop's record, the block lb, and rows of works from w0 on -/
structure KeepW (lb w0 l : Nat) (A B : World) : Prop where
  size : A.heap.size ≤ B.heap.size
  same : ∀ r, r < A.heap.size → r ≠ l → r ≠ lb → (r < w0 ∨ ∀ cs fr, A.heap[r]? ≠ some (.cells cs 26 fr)) → B.heap[r]? = A.heap[r]?
  box : ∀ o, A.heap[lb]? = some o → o.isCells = true → ∃ o', B.heap[lb]? = some o' ∧ o'.isCells = true
theorem KeepW.refl (lb w0 l : Nat) (A : World) : KeepW lb w0 l A A := ⟨Nat.le_refl _, fun _ _ _ _ _ => rfl, fun o h1 h2 => ⟨o, h1, h2⟩⟩
theorem KeepW.trans {lb w0 l : Nat} {A B C : World} (h : KeepW lb w0 l A B) (k : KeepW lb w0 l B C) : KeepW lb w0 l A C :=
  ⟨Nat.le_trans h.size k.size, fun r hr hl hb hx => by
    have e := h.same r hr hl hb hx
    exact (k.same r (Nat.lt_of_lt_of_le hr h.size) hl hb (hx.imp id (fun hn cs fr => by rw [e]; exact hn cs fr))).trans e, fun o h1 h2 => by
    obtain ⟨o', h3, h4⟩ := h.box o h1 h2
    exact k.box o' h3 h4⟩
theorem KeepW.put {lb w0 l : Nat} (A : World) (o o' : Obj) (h : A.heap[l]? = some o) (ho : o.isCells = false) : KeepW lb w0 l A (A.putObj l o') :=
  ⟨Nat.le_of_eq (by simp [World.putObj]), fun r _ hl _ _ => World.putObj_heap_other hl, fun x h1 h2 => by
    have hne : lb ≠ l := fun e => by rw [e, h] at h1; injection h1 with h1; rw [h1, h2] at ho; cases ho
    exact ⟨x, (World.putObj_heap_other hne).trans h1, h2⟩⟩
theorem Agree.keep {w0 lb l : Nat} {W0 A B : World} (h : Agree w0 lb W0 A) (k : KeepW lb w0 l A B) (hl : W0.heap.size ≤ l) : Agree w0 lb W0 B :=
  ⟨h.low, Nat.le_trans h.size k.size, fun r hr hb hx => by
    have e := h.same r hr hb hx
    exact (k.same r (Nat.lt_of_lt_of_le hr h.size) (by omega) hb (hx.imp id (fun hn cs fr => by rw [e]; exact hn cs fr))).trans e, by
    obtain ⟨o, h1, h2⟩ := h.box
    exact k.box o h1 h2⟩
theorem Agree.cell {w0 lb : Nat} {W0 W : World} (h : Agree w0 lb W0 W) {b i : Nat} {v : Value} (hc : W0.cell? ⟨b, i, none⟩ = some v) (hb : b < w0) (hn : b ≠ lb) : W.cell? ⟨b, i, none⟩ = some v := (World.cell?_of_block (h.same b (Nat.lt_of_lt_of_le hb h.low) hn (.inl hb))).trans hc
theorem Agree.has {w0 lb r : Nat} {W0 W : World} {t : TypeId} {cs : List Value} (h : Agree w0 lb W0 W) (hh : Has W0 r t cs) (hn : r ≠ lb) (ht : t ≠ 26) : Has W r t cs :=
  hh.same (h.same r hh.lt hn (.inr (fun cs' fr e => by unfold Has at hh; rw [hh] at e; injection e with e; injection e with _ e _; exact ht e)))
def encI (x : Nat × Nat) : Array Value := #[.int .i64 (x.1 : Int), .int .i64 (x.2 : Int)]
/-- an iterator of pairs of ints answers a list -/
def SeqI (gf : Nat) (caps : Array Value) (w0 lb : Nat) (W0 : World) (xs : List (Nat × Nat)) : Prop :=
  ∀ (I : List (Nat × Nat) → World → Prop) (l dd : Nat) (rc0 : Loop) (W : World), W0.heap.size ≤ l → l < W.heap.size → Agree w0 lb W0 W → Mid I l dd rc0 [] W →
    (∀ pre x W1, (pre ++ [x]) <+: xs → Agree w0 lb W0 W1 → Mid I l dd rc0 pre W1 → YieldAt Fence.wide 0 Try.prog l (encI x) W1 fun e W' => e = .returned (.bool true) ∧ Mid I l dd rc0 (pre ++ [x]) W' ∧ KeepW lb w0 l W1 W') →
    Calls Try.prog gf (#[.func (.yield l) #[] #[]] ++ caps) W fun e W' => (∃ v, e = .returned v) ∧ Mid I l dd rc0 xs W' ∧ KeepW lb w0 l W W'
def bkN (L : List Nat) (k : Nat) : List (Nat × Nat) := (List.range k).map fun i => (L.length - 1 - i, L.getD (L.length - 1 - i) 0)
def alN (L : List Nat) (k : Nat) : List (Nat × Nat) := (List.range k).map fun i => (i, L.getD i 0)
theorem rng_pre {α : Type} (f : Nat → α) {k n : Nat} (h : k < n) : ((List.range k).map f ++ [f k]) <+: (List.range n).map f := by
  have e : (List.range k).map f ++ [f k] = (List.range (k + 1)).map f := by rw [List.range_succ, List.map_append]; rfl
  rw [e]
  refine List.IsPrefix.map f ?_
  obtain ⟨d, rfl⟩ : ∃ d, n = (k + 1) + d := ⟨n - (k + 1), by omega⟩
  exact ⟨_, (List.range_add ..).symm⟩
theorem rng_next {α : Type} (f : Nat → α) (k : Nat) : (List.range (k + 1)).map f = (List.range k).map f ++ [f k] := by rw [List.range_succ, List.map_append]; rfl
set_option maxRecDepth 100000 in
set_option maxHeartbeats 4000000 in
theorem bkIter (bx bq oq n c w0 lb : Nat) (A : Option Addr) (L : List Nat) (W0 : World) (hn : L.length = n) (hn2 : n ≤ 1000000) (hbb : bx ≠ lb) (hbq : bq < w0) (hbl : bq ≠ lb)
    (h1 : Has W0 bx 29 [.slice A n c]) (hA : 0 < n → A = some ⟨bq, oq, none⟩) (hq : ∀ (k x : Nat), L[k]? = some x → W0.cell? ⟨bq, oq + k, none⟩ = some (.int .i64 (x : Int))) :
    SeqI 99 #[.pointer (some ⟨bx, 0, none⟩)] w0 lb W0 (bkN L n) := by
  intro I l dd rc0 W hwl hl hag h0 hY
  have HY := Lib.hid hY; clear hY
  have HQ := Lib.hid hq; clear hq
  have H0 := Lib.hid h0; clear h0
  have H1 := Lib.hid h1; clear h1
  have HA := Lib.hid hA; clear hA
  have HG0 := Lib.hid hag
  have i0 : IntKind.i64.wrap ((n : Int) - 1) = (n : Int) - 1 := IntWalk.i64_in _ (by omega)
  have b0 : W.cell? ⟨bx, 0, none⟩ = some (.slice A n c) := (hag.has H1.out hbb (by decide)).cell 0
  clear hag
  show Calls _ _ #[_, _] _ _
  go_enter Try.func99, Try.ntmps99
  go_wp2
  clear b0
  go_loopw [3] (fun v wr => ∃ k : Nat, k ≤ n ∧ v = .int .i64 ((n : Int) - 1 - (k : Int)) ∧ Hid (Mid I l dd rc0 (bkN L k) wr) ∧ Hid (KeepW lb w0 l W wr)) (fun v _ => ((intOf v) + 1).toNat)
  case atStart => exact ⟨0, Nat.zero_le _, by go_num, H0, Lib.hid (KeepW.refl _ _ _ _)⟩
  case round =>
    clear H0
    obtain ⟨k, hk, rfl, HM, HK⟩ := hrel
    obtain ⟨wo, rfl⟩ : ∃ wo : World, wo = wr := ⟨_, rfl⟩
    have HG := Lib.hid (HG0.out.keep HK.out hwl)
    have q0 : bx < wo.heap.size := (HG.out.has H1.out hbb (by decide)).lt
    by_cases hlt : k < n
    · obtain ⟨j, hj⟩ : ∃ j : Nat, j = n - 1 - k := ⟨_, rfl⟩
      have ej : (n : Int) - 1 - (k : Int) = (j : Int) := by omega
      rw [ej]
      obtain ⟨q, hqj⟩ := get_of_lt (l := L) (k := j) (by omega)
      have hA := HA.out (by omega)
      subst hA
      have b1 : wo.cell? ⟨bx, 0, none⟩ = some (.slice (some ⟨bq, oq, none⟩) n c) := (HG.out.has H1.out hbb (by decide)).cell 0
      have c0 : wo.cell? ⟨bq, oq + j, none⟩ = some (.int .i64 (q : Int)) := HG.out.cell (HQ.out j q hqj) hbq hbl
      have jn : (j : Int) < (n : Int) := by omega
      have jz : (0 : Int) ≤ (j : Int) := by omega
      have q1 : bq < wo.heap.size := by have := HG.out.size; have := HG.out.low; omega
      have eX : (L.length - 1 - k, L.getD (L.length - 1 - k) 0) = (j, q) := by rw [hn, ← hj, List.getD_eq_getElem?_getD, hqj]; rfl
      have HS : Hid (bkN L (k + 1) = bkN L k ++ [(j, q)]) := by show _ = _; unfold bkN; rw [rng_next, eX]
      have hY := HY.out (bkN L k) (j, q) wo (by rw [← eX]; exact rng_pre (fun i => (L.length - 1 - i, L.getD (L.length - 1 - i) 0)) hlt) HG.out HM.out
      have eM : encI (j, q) = #[.int .i64 (j : Int), .int .i64 (q : Int)] := rfl
      rw [eM] at hY
      unfold YieldAt at hY
      obtain ⟨fn, tmps, assign, body, hy, hR⟩ := hY
      have HRR := Lib.hid hR
      have hj1 : j + k + 1 ≤ n ∧ n ≤ j + k + 1 := by omega
      clear hqj hR eM HM hj ej eX
      go_upto_region 3 with (fail)
      refine (wpIn_wide (n := 0)).1 ?_
      gi_wp2
      refine ⟨rfl, HRR.out.mono ?_⟩
      rintro e w3 ⟨rfl, hM3, hKS⟩
      have hKS2 := Lib.hid (HK.out.trans hKS)
      clear hKS HK HRR
      gi_wp2
      go_wp2
      refine ⟨⟨_, _, _, _, _, _, _, _, _, _, _, _, _, ⟨k + 1, by omega, ?_, ?_, hKS2⟩, rfl⟩, ?_⟩
      · first | go_num | (congr 1; omega)
      · show Mid I l dd rc0 _ _
        rw [HS.out]; exact hM3
      · first | (simp [intOf]; done) | (simp [intOf]; omega)
    · obtain rfl : k = n := by omega
      have e1 : (k : Int) - 1 - (k : Int) = -1 := by omega
      rw [e1]
      go_wp2
      go_end0
      exact ⟨⟨_, rfl⟩, HM.out, HK.out⟩
set_option maxRecDepth 100000 in
set_option maxHeartbeats 4000000 in
theorem alIter (bx bq oq n c w0 lb : Nat) (A : Option Addr) (L : List Nat) (W0 : World) (hn : L.length = n) (hn2 : n ≤ 1000000) (hbb : bx ≠ lb) (hbq : bq < w0) (hbl : bq ≠ lb)
    (h1 : Has W0 bx 29 [.slice A n c]) (hA : 0 < n → A = some ⟨bq, oq, none⟩) (hq : ∀ (k x : Nat), L[k]? = some x → W0.cell? ⟨bq, oq + k, none⟩ = some (.int .i64 (x : Int))) :
    SeqI 100 #[.pointer (some ⟨bx, 0, none⟩)] w0 lb W0 (alN L n) := by
  intro I l dd rc0 W hwl hl hag h0 hY
  have HY := Lib.hid hY; clear hY
  have HQ := Lib.hid hq; clear hq
  have H0 := Lib.hid h0; clear h0
  have H1 := Lib.hid h1; clear h1
  have HA := Lib.hid hA; clear hA
  have HG0 := Lib.hid hag
  have b0 : W.cell? ⟨bx, 0, none⟩ = some (.slice A n c) := (hag.has H1.out hbb (by decide)).cell 0
  clear hag
  show Calls _ _ #[_, _] _ _
  go_enter Try.func100, Try.ntmps100
  go_wp2
  clear b0
  go_loopw [7] (fun v wr => ∃ k : Nat, k ≤ n ∧ v = .int .i64 (k : Int) ∧ Hid (Mid I l dd rc0 (alN L k) wr) ∧ Hid (KeepW lb w0 l W wr)) (fun v _ => n - (intOf v).toNat)
  case atStart => exact ⟨0, Nat.zero_le _, rfl, H0, Lib.hid (KeepW.refl _ _ _ _)⟩
  case round =>
    clear H0
    obtain ⟨k, hk, rfl, HM, HK⟩ := hrel
    obtain ⟨wo, rfl⟩ : ∃ wo : World, wo = wr := ⟨_, rfl⟩
    have HG := Lib.hid (HG0.out.keep HK.out hwl)
    have q0 : bx < wo.heap.size := (HG.out.has H1.out hbb (by decide)).lt
    by_cases hlt : k < n
    · obtain ⟨q, hqj⟩ := get_of_lt (l := L) (k := k) (by omega)
      have ik : IntKind.i64.wrap ((k : Int) + 1) = (k : Int) + 1 := IntWalk.i64_in _ (by omega)
      have hA := HA.out (by omega)
      subst hA
      have b1 : wo.cell? ⟨bx, 0, none⟩ = some (.slice (some ⟨bq, oq, none⟩) n c) := (HG.out.has H1.out hbb (by decide)).cell 0
      have c0 : wo.cell? ⟨bq, oq + k, none⟩ = some (.int .i64 (q : Int)) := HG.out.cell (HQ.out k q hqj) hbq hbl
      have jn : (k : Int) < (n : Int) := by omega
      have jz : (0 : Int) ≤ (k : Int) := by omega
      have q1 : bq < wo.heap.size := by have := HG.out.size; have := HG.out.low; omega
      have eX : (k, L.getD k 0) = (k, q) := by rw [List.getD_eq_getElem?_getD, hqj]; rfl
      have HS : Hid (alN L (k + 1) = alN L k ++ [(k, q)]) := by show _ = _; unfold alN; rw [rng_next, eX]
      have hY := HY.out (alN L k) (k, q) wo (by rw [← eX]; exact rng_pre (fun i => (i, L.getD i 0)) hlt) HG.out HM.out
      have eM : encI (k, q) = #[.int .i64 (k : Int), .int .i64 (q : Int)] := rfl
      rw [eM] at hY
      unfold YieldAt at hY
      obtain ⟨fn, tmps, assign, body, hy, hR⟩ := hY
      have HRR := Lib.hid hR
      clear hqj hR eM HM eX
      go_upto_region 3 with (fail)
      refine (wpIn_wide (n := 0)).1 ?_
      gi_wp2
      refine ⟨rfl, HRR.out.mono ?_⟩
      rintro e w3 ⟨rfl, hM3, hKS⟩
      have hKS2 := Lib.hid (HK.out.trans hKS)
      clear hKS HK HRR
      gi_wp2
      go_wp2
      refine ⟨⟨_, _, _, _, _, _, _, _, _, _, _, _, _, ⟨k + 1, by omega, ?_, ?_, hKS2⟩, rfl⟩, ?_⟩
      · rw [Int.natCast_add]; rfl
      · show Mid I l dd rc0 _ _
        rw [HS.out]; exact hM3
      · first | (simp [intOf]; done) | (simp [intOf]; omega)
    · obtain rfl : k = n := by omega
      have e1 : ¬ (k : Int) < (k : Int) := by omega
      go_wp2
      go_end0
      exact ⟨⟨_, rfl⟩, HM.out, HK.out⟩
end Go.Proofs.Ytnjenggijmbhcaa
