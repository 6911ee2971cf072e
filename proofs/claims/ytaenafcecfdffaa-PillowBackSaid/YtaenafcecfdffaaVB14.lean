/-
  Contract of chapter 16: pillow.read.
-/
import Derived.Test.YtaenafcecfdffaaVB1
import Derived.Test.YtaenafcecfdffaaVB13
namespace Go.Proofs.Ytaenafcecfdffaa
open Go.RowKit
def RetRv (bs : List UInt8) (w : World) (e : Ending) (w' : World) : Prop :=
  ∃ (pv sv : Int) (A1 A2 : Option Addr) (n1 c1 n2 c2 : Nat), e = .returned (.tuple #[.agg #[.int .i64 pv, .int .i64 sv, .slice A1 n1 c1, .slice A2 n2 c2], .int .i64 (rdP bs).1]) ∧ Below w.heap.size w w' ∧
    ((rdP bs).1 = 0 → pv = (rdP bs).2.p ∧ sv = (rdP bs).2.s ∧ n1 = (rdP bs).2.steps.length ∧ n2 = (rdP bs).2.out.length ∧ w'.ownsRow w.heap.size 35 3 (.slice A1 n1 c1) n1 (wksCells (rdP bs).2.steps) ∧ w'.ownsRow w.heap.size 3 1 (.slice A2 n2 c2) n2 ((rdP bs).2.out.map vInt))
def svRows (l : List Wk) (o : List Int) (S O : Value) : List RowD := [⟨35, 3, S, l.length, wksCells l⟩, ⟨3, 1, O, o.length, o.map vInt⟩]
/-- what read has at hand: the saved so far at block B, the error at B + 1, the reader at B + 2 -/
structure RdK (w W : World) (bs : List UInt8) (p s : Int) (l : List Wk) (o : List Int) (S O : Value) : Prop where
  rows : RowsH W w.heap.size w.heap.size 105 [.int .i64 p, .int .i64 s] (svRows l o S O)
  ec : Has W (w.heap.size + 1) 26 [.int .i64 0]
  rd : RdrH W w.heap.size (w.heap.size + 1 + 1) bs
  keep : Below w.heap.size w W
theorem svRows_mem {l : List Wk} {o : List Int} {S O : Value} {i : Nat} {r : RowD} (hi : (svRows l o S O)[i]? = some r) : r.e = 35 ∨ r.e = 3 := by
  rcases i with _ | _ | i
  · injection hi with hi; subst hi; exact .inl rfl
  · injection hi with hi; subst hi; exact .inr rfl
  · cases hi
section
variable {w W W' : World} {bs bs' : List UInt8} {p s : Int} {l : List Wk} {o : List Int} {S O : Value}
theorem RdK.reader (h : RdK w W bs p s l o S O) (hr : RdrH W' w.heap.size (w.heap.size + 1 + 1) bs') (k : KeepB (fun q => q = w.heap.size + 1 + 1) W W') : RdK w W' bs' p s l o S O := by
  refine ⟨h.rows.keep k (by omega) fun i r b hi hb e => ?_, k.has h.ec (by omega), hr, h.keep.trans (k.below (fun r e => by omega) h.rows.z)⟩
  obtain ⟨A, c, hh, _⟩ := h.rd.ex
  subst e
  refine hh.ne_own (h.rows.o i r hi) ?_ hb
  rcases svRows_mem hi with e | e <;> rw [e] <;> decide
theorem RdK.turn {p' s' : Int} {l' : List Wk} {o' : List Int} {S' O' : Value} (h : RdK w W bs p s l o S O) (r' : RowsH W' w.heap.size w.heap.size 105 [.int .i64 p', .int .i64 s'] (svRows l' o' S' O')) (k : KeepB (fun q => w.heap.size ≤ q ∧ q ≠ w.heap.size + 1 ∧ q ≠ w.heap.size + 1 + 1) W W') : RdK w W' bs p' s' l' o' S' O' :=
  ⟨r', k.has h.ec (fun e => e.2.1 rfl), h.rd.keep k (fun e => e.2.2 rfl) (fun q hq e => by omega), h.keep.trans (k.below (fun r e => e.1) h.rows.z)⟩
theorem RdK.far (h : RdK w W bs p s l o S O) {b : Nat} (hb : w.heap.size + 1 + 1 < b) (hS : S.ownBlock ≠ some b) (hO : O.ownBlock ≠ some b) (i : Nat) (u : Value) : RdK w (W.setCell ⟨b, i, none⟩ u) bs p s l o S O := by
  refine h.turn (h.rows.keep (KeepB.set (S := fun q => q = b) W rfl i u) (by omega) fun j r c hj hc e => ?_) (KeepB.set (S := fun q => w.heap.size ≤ q ∧ q ≠ w.heap.size + 1 ∧ q ≠ w.heap.size + 1 + 1) W (by omega) i u)
  subst e
  rcases j with _ | _ | j
  · injection hj with hj; subst hj; exact hS hc
  · injection hj with hj; subst hj; exact hO hc
  · cases hj
theorem RdK.head (h : RdK w W bs p s l o S O) (p' s' : Int) : RdK w ((W.setCell ⟨w.heap.size, 0, none⟩ (.int .i64 p')).setCell ⟨w.heap.size, 1, none⟩ (.int .i64 s')) bs p' s' l o S O :=
  h.turn ((h.rows.head 0 (by show 0 < 2; omega) (.int .i64 p')).head 1 (by show 1 < 2; omega) (.int .i64 s'))
    ((KeepB.set (S := fun q => w.heap.size ≤ q ∧ q ≠ w.heap.size + 1 ∧ q ≠ w.heap.size + 1 + 1) W (by omega) 0 _).trans (KeepB.set _ (by omega) 1 _))
theorem RdK.apart (h : RdK w W bs p s l o S O) {i : Nat} {r : RowD} {b : Nat} (hi : (svRows l o S O)[i]? = some r) (hb : r.v.ownBlock = some b) : w.heap.size ≤ b ∧ b ≠ w.heap.size ∧ b ≠ w.heap.size + 1 ∧ b ≠ w.heap.size + 1 + 1 := by
  obtain ⟨A, c, hh, _⟩ := h.rd.ex
  refine ⟨((h.rows.o i r hi).lt b hb).1, fun e => ?_, fun e => ?_, fun e => ?_⟩
  · subst e; exact h.rows.ne hi hb
  · subst e
    refine h.ec.ne_own (h.rows.o i r hi) ?_ hb
    rcases svRows_mem hi with e | e <;> rw [e] <;> decide
  · subst e
    refine hh.ne_own (h.rows.o i r hi) ?_ hb
    rcases svRows_mem hi with e | e <;> rw [e] <;> decide
theorem RdK.has_grown (h : RdK w W bs p s l o S O) {i : Nat} {r : RowD} (hi : (svRows l o S O)[i]? = some r) (k : W.grownBy W' r.v.ownBlock) : Has W' w.heap.size 105 [.int .i64 p, .int .i64 s, S, O] :=
  (KeepB.grown (S := fun q => some q = r.v.ownBlock) k (fun _ e => e)).has h.rows.c (fun e => (h.apart hi e.symm).2.1 rfl)
theorem RdK.grow0 {A' : Option Addr} {c' g cap : Nat} {x : Wk} (h : RdK w W bs p s l o (.slice A' l.length c') O) (k : W.grownBy W' (Value.slice A' l.length c').ownBlock) (o' : W'.ownsRow w.heap.size 35 3 (.slice (some ⟨g, 0, none⟩) (l.length + 1) cap) (l.length + 1) (wksCells l ++ wkCells x)) :
    RdK w (W'.setCell ⟨w.heap.size, 2, none⟩ (.slice (some ⟨g, 0, none⟩) (l.length + 1) cap)) bs p s (l ++ [x]) o (.slice (some ⟨g, 0, none⟩) (l.length + 1) cap) O := by
  have hr := h.rows.grow (i := 0) rfl k o' 2 rfl
  refine h.turn ?_ ((KeepB.grown k (fun q e => ?_)).trans (KeepB.set _ (by omega) 2 _))
  · unfold svRows
    rw [wksCells_app, List.length_append]
    exact hr
  · obtain ⟨h1, h2, h3, h4⟩ := h.apart (i := 0) rfl e.symm
    exact ⟨h1, h3, h4⟩
theorem RdK.grow1 {A' : Option Addr} {G : Option Addr} {c' cap : Nat} {x : Int} (h : RdK w W bs p s l o S (.slice A' o.length c')) (k : W.grownBy W' (Value.slice A' o.length c').ownBlock) (o' : W'.ownsRow w.heap.size 3 1 (.slice G (o.length + 1) cap) (o.length + 1) (o.map vInt ++ [vInt x])) :
    RdK w (W'.setCell ⟨w.heap.size, 3, none⟩ (.slice G (o.length + 1) cap)) bs p s l (o ++ [x]) S (.slice G (o.length + 1) cap) := by
  have hr := h.rows.grow (i := 1) rfl k o' 3 rfl
  refine h.turn ?_ ((KeepB.grown k (fun q e => ?_)).trans (KeepB.set _ (by omega) 3 _))
  · unfold svRows
    rw [List.map_append, List.length_append]
    exact hr
  · obtain ⟨h1, h2, h3, h4⟩ := h.apart (i := 1) rfl e.symm
    exact ⟨h1, h3, h4⟩
theorem RdK.below (h : RdK w W bs p s l o S O) (k : Below W.heap.size W W') : RdK w W' bs p s l o S O := by
  have hr := h.rd.ex
  obtain ⟨A, c, hh, hc, hR⟩ := hr
  refine ⟨h.rows.below k, h.ec.below k h.ec.lt, h.rd.keep (S := fun _ => False) ⟨k.os, k.tape, k.output, k.size, fun r hr _ => k.block r hr⟩ (fun e => e) (fun _ _ e => e), h.keep.trans ?_⟩
  exact ⟨k.os, k.tape, k.output, k.size, fun r hr => k.block r (by have := h.rows.z; omega)⟩
theorem RdK.drew (h : RdK w W bs p s l o S O) : RdK w W.drew bs p s l o S O := ⟨h.rows.drew, h.ec.drew, ⟨h.rd.ex, h.rd.b⟩, ⟨h.keep.os, h.keep.tape, h.keep.output, h.keep.size, h.keep.block⟩⟩
theorem RdK.drewN (h : RdK w W bs p s l o S O) (n : Nat) : RdK w (W.drewN n) bs p s l o S O := ⟨h.rows.drewN n, h.ec.drewN n, h.rd.drewN n, ⟨h.keep.os, h.keep.tape, h.keep.output, h.keep.size, h.keep.block⟩⟩
end
def rdSt (bs : List UInt8) (p s : Int) : Option (List Wk × List UInt8) → Int × Sv
  | some (l, r') => rdTail bs p s l r'
  | none => (6, sv0)
def rdOt (bs : List UInt8) (p s : Int) (l : List Wk) : Option (List Int × List UInt8) → Int × Sv
  | some (o, r') => rdEnd bs ⟨p, s, l, o⟩ r'
  | none => (6, sv0)
theorem rdBody_st (bs : List UInt8) (p s n1 n0 : UInt8) (r : List UInt8) : rdBody bs (p :: s :: n1 :: n0 :: r) = rdSt bs (p.toNat : Int) (s.toNat : Int) (rdSteps (two8 n1 n0).toNat r) := by
  unfold rdBody rdSt
  rfl
theorem rdTail_ot (bs : List UInt8) (p s : Int) (l : List Wk) (m1 m0 : UInt8) (r : List UInt8) : rdTail bs p s l (m1 :: m0 :: r) = rdOt bs p s l (rdOuts (two8 m1 m0).toNat r) := by
  unfold rdTail rdOt
  rfl
theorem rdSteps_stop (m : Nat) {cur : List UInt8} (h : cur.length < 3) : rdSteps (m + 1) cur = none := by
  rcases cur with _ | ⟨a, _ | ⟨b, _ | ⟨c, r⟩⟩⟩
  · rfl
  · rfl
  · rfl
  · simp at h; omega
theorem rdSteps_word (m : Nat) {o a k : UInt8} {r : List UInt8} (h : r.length < k.toNat) : rdSteps (m + 1) (o :: a :: k :: r) = none := if_neg (by omega)
theorem rdSteps_inv {N k : Nat} {l : List Wk} {o a kk : UInt8} {r r3 : List UInt8} (hI : rdSteps N r3 = (rdSteps (N - k) (o :: a :: kk :: r)).map (fun x => (l ++ x.1, x.2))) (hk : k < N) (hle : kk.toNat ≤ r.length) :
    rdSteps N r3 = (rdSteps (N - (k + 1)) (r.drop kk.toNat)).map (fun x => ((l ++ [⟨(o.toNat : Int), (a.toNat : Int), ⟨(r.take kk.toNat).toArray⟩⟩]) ++ x.1, x.2)) := by
  obtain ⟨m, hm⟩ : ∃ m, N - k = m + 1 := ⟨N - k - 1, by omega⟩
  rw [hI, hm, show N - (k + 1) = m by omega]
  have e : rdSteps (m + 1) (o :: a :: kk :: r) = (rdSteps m (r.drop kk.toNat)).map (fun x => ((⟨(o.toNat : Int), (a.toNat : Int), ⟨(r.take kk.toNat).toArray⟩⟩ : Wk) :: x.1, x.2)) := if_pos hle
  rw [e, Option.map_map]
  congr 1
  funext x
  show (l ++ (_ :: x.1), x.2) = _
  rw [List.append_assoc]
  rfl
theorem rdOuts_stop (m : Nat) {cur : List UInt8} (h : cur.length < 2) : rdOuts (m + 1) cur = none := by
  rcases cur with _ | ⟨a, _ | ⟨b, r⟩⟩
  · rfl
  · rfl
  · simp at h; omega
theorem rdOuts_inv {N k : Nat} {l : List Int} {x y : UInt8} {r r3 : List UInt8} (hI : rdOuts N r3 = (rdOuts (N - k) (x :: y :: r)).map (fun z => (l ++ z.1, z.2))) (hk : k < N) :
    rdOuts N r3 = (rdOuts (N - (k + 1)) r).map (fun z => ((l ++ [two8 x y]) ++ z.1, z.2)) := by
  obtain ⟨m, hm⟩ : ∃ m, N - k = m + 1 := ⟨N - k - 1, by omega⟩
  rw [hI, hm, show N - (k + 1) = m by omega]
  have e : rdOuts (m + 1) (x :: y :: r) = (rdOuts m r).map (fun z => (two8 x y :: z.1, z.2)) := rfl
  rw [e, Option.map_map]
  congr 1
  funext z
  show (l ++ (_ :: z.1), z.2) = _
  rw [List.append_assoc]
  rfl
theorem or_add32 (i M x b : Nat) (hM : M = 2 ^ i) (hb : b < M) (hx : x * M + b < 4294967296) : bits BinOp.or IntKind.u32 ((x * M : Nat) : Int) (b : Int) = ((x * M + b : Nat) : Int) := by
  have h := Nat.shiftLeft_add_eq_or_of_lt (i := i) (b := b) (by rw [← hM]; exact hb) x
  rw [Nat.shiftLeft_eq, ← hM] at h
  have h1 : (BitVec.ofInt 32 ((x * M : Nat) : Int)).toNat = x * M := by
    rw [BitVec.ofInt_natCast, BitVec.toNat_ofNat]; exact Nat.mod_eq_of_lt (by omega)
  have h2 : (BitVec.ofInt 32 (b : Int)).toNat = b := by
    rw [BitVec.ofInt_natCast, BitVec.toNat_ofNat]; exact Nat.mod_eq_of_lt (by omega)
  show IntKind.u32.wrap ((BitVec.ofInt 32 ((x * M : Nat) : Int) ||| BitVec.ofInt 32 (b : Int)).toNat : Int) = _
  rw [BitVec.toNat_or, h1, h2, ← h]
  generalize x * M + b = n at hx
  show ((n : Int) % 4294967296) = (n : Int)
  omega
theorem mul_shift (X c : Nat) : X * 65536 + c * 256 = (X * 256 + c) * 256 := by omega
theorem or_be32 (e0 e1 e2 e3 : UInt8) : bits BinOp.or IntKind.u32 (bits BinOp.or IntKind.u32 (bits BinOp.or IntKind.u32 ((e0.toNat : Int) % 4294967296 * 16777216 % 4294967296) ((e1.toNat : Int) % 4294967296 * 65536 % 4294967296)) ((e2.toNat : Int) % 4294967296 * 256 % 4294967296)) ((e3.toNat : Int) % 4294967296) = be32 e0 e1 e2 e3 := by
  have h0 := e0.toNat_lt
  have h1 := e1.toNat_lt
  have h2 := e2.toNat_lt
  have h3 := e3.toNat_lt
  unfold be32
  generalize e0.toNat = a at *
  generalize e1.toNat = b at *
  generalize e2.toNat = c at *
  generalize e3.toNat = d at *
  have q0 : (a : Int) % 4294967296 * 16777216 % 4294967296 = ((a * 16777216 : Nat) : Int) := by omega
  have q1 : (b : Int) % 4294967296 * 65536 % 4294967296 = ((b * 65536 : Nat) : Int) := by omega
  have q2 : (c : Int) % 4294967296 * 256 % 4294967296 = ((c * 256 : Nat) : Int) := by omega
  have q3 : (d : Int) % 4294967296 = (d : Int) := by omega
  have r0 := or_add32 24 16777216 a (b * 65536) rfl (by omega) (by omega)
  have r1 := or_add32 16 65536 (a * 256 + b) (c * 256) rfl (by omega) (by omega)
  have r2 := or_add32 8 256 ((a * 256 + b) * 256 + c) d rfl (by omega) (by omega)
  have s1 : a * 16777216 + b * 65536 = (a * 256 + b) * 65536 := by omega
  have s2 : (a * 256 + b) * 65536 + c * 256 = ((a * 256 + b) * 256 + c) * 256 := mul_shift (a * 256 + b) c
  rw [s1] at r0
  rw [s2] at r1
  rw [q0, q1, q2, q3, r0, r1]
  refine r2.trans ?_
  omega
theorem rdU8_up {w : World} {B C : Nat} {A : Option Addr} {xs : List UInt8} (h : RdU8 w B A xs) (hB : B ≤ C) : RdU8 w C A xs := fun j x hx => by
  obtain ⟨b, o, e, h1, h2⟩ := h j x hx
  exact ⟨b, o, e, by omega, h2⟩
theorem take_len3 {bs : List UInt8} (h : 3 ≤ bs.length) : (bs.take 3).length = 3 := by rw [List.length_take]; omega
theorem rdP_form {bs : List UInt8} (h : ¬ bs.take 3 = [80, 76, 1]) : (rdP bs).1 = 6 := by
  unfold rdP
  rw [if_neg h]
theorem rdP_short {bs : List UInt8} (h : bs.length < 3) : (rdP bs).1 = 6 := by
  unfold rdP
  rw [if_neg (fun e => by have := congrArg List.length e; rw [List.length_take] at this; simp at this; omega)]
theorem rdK_begin (w : World) (A : Option Addr) (c : Nat) (bs : List UInt8) (h : RdU8 w w.heap.size A bs) (hc : bs.length ≤ c) :
    RdK w (((w.alloc (.cells #[.int .i64 0, .int .i64 0, .slice none 0 0, .slice none 0 0] 105)).alloc (.cells #[.int .i64 0] 26)).alloc (.cells #[.slice A bs.length c] 131)) bs 0 0 [] [] (.slice none 0 0) (.slice none 0 0) := by
  have k1 := (Below.refl w.heap.size w).alloc (Nat.le_refl _) (.cells #[.int .i64 0, .int .i64 0, .slice none 0 0, .slice none 0 0] 105)
  have k2 := k1.alloc k1.size (.cells #[.int .i64 0] 26)
  have k3 := k2.alloc k2.size (.cells #[.slice A bs.length c] 131)
  have s1 : (w.alloc (.cells #[.int .i64 0, .int .i64 0, .slice none 0 0, .slice none 0 0] 105)).heap.size = w.heap.size + 1 := World.size_alloc _ _
  have c1 : Has (w.alloc (.cells #[.int .i64 0, .int .i64 0, .slice none 0 0, .slice none 0 0] 105)) w.heap.size 105 [.int .i64 0, .int .i64 0, .slice none 0 0, .slice none 0 0] := Has.new rfl
  have c2 := Has.new2 (w := w) (o := .cells #[.int .i64 0, .int .i64 0, .slice none 0 0, .slice none 0 0] 105) (t := 26) (arr := #[.int .i64 0]) (cs := [.int .i64 0]) rfl
  have c3 := Has.new2 (w := w.alloc (.cells #[.int .i64 0, .int .i64 0, .slice none 0 0, .slice none 0 0] 105)) (o := .cells #[.int .i64 0] 26) (t := 131) (arr := #[.slice A bs.length c]) (cs := [.slice A bs.length c]) rfl
  rw [s1] at c3
  refine ⟨⟨(c1.alloc _).alloc _, ?_, rows_d (rs := svRows [] [] (.slice none 0 0) (.slice none 0 0)) (by simp [svRows]), rows_t (by simp [svRows]), Nat.le_refl _, k3.size⟩, c2.alloc _, ⟨⟨A, c, c3, hc, fun j x hx => ?_⟩, by omega⟩, k3⟩
  · intro i r hi
    have hm := mem_of_get hi
    simp only [svRows, List.mem_cons, List.not_mem_nil, or_false] at hm
    rcases hm with rfl | rfl <;> exact World.ownsRow_nil _ _ _ _
  · obtain ⟨b, o, e, h1, h2⟩ := h j x hx
    exact ⟨b, o, e, h1, (k3.cell h1).trans h2⟩
theorem rdK_results {W : World} {B : Nat} {p s e : Int} {S O : Value} (h : Has W B 105 [.int .i64 p, .int .i64 s, S, O]) (he : Has W (B + 1) 26 [.int .i64 e]) (tmps : Array Value) (ht2 : tmps.getD 2 undef = .pointer (some ⟨B, 0, none⟩)) (ht3 : tmps.getD 3 undef = .pointer (some ⟨B + 1, 0, none⟩)) :
    (results Try.f50 tmps).run Try.prog W = .ok (.tuple #[.agg #[.int .i64 p, .int .i64 s, S, O], .int .i64 e]) W := by
  have c0 : W.cell? ⟨B, 0, none⟩ = some (.int .i64 p) := h.cell 0
  have c1 : W.cell? ⟨B, 1, none⟩ = some (.int .i64 s) := h.cell 1
  have c2 : W.cell? ⟨B, 2, none⟩ = some S := h.cell 2
  have c3 : W.cell? ⟨B, 3, none⟩ = some O := h.cell 3
  have d0 : W.cell? ⟨B + 1, 0, none⟩ = some (.int .i64 e) := he.cell 0
  rw [Array.getD_eq_getD_getElem?] at ht2 ht3
  simp [results, Try.results50, ht2, ht3, go_sem, c0, c1, c2, c3, d0]
theorem rdK_ret {w W : World} {bs : List UInt8} {p s e : Int} {l : List Wk} {o : List Int} {S O : Value} (h : RowsH W w.heap.size w.heap.size 105 [.int .i64 p, .int .i64 s] (svRows l o S O)) (he : Has W (w.heap.size + 1) 26 [.int .i64 e]) (k : Below w.heap.size w W) (hE : (rdP bs).1 = e) (hv : e = 0 → (rdP bs).2 = ⟨p, s, l, o⟩)
    (tmps : Array Value) (ht2 : tmps.getD 2 undef = .pointer (some ⟨w.heap.size, 0, none⟩)) (ht3 : tmps.getD 3 undef = .pointer (some ⟨w.heap.size + 1, 0, none⟩)) :
    bodyPostD Try.prog Try.f50 (RetRv bs w) .ret { tmps := tmps, defers := [{ target := .fn (.func 71) #[.pointer (some ⟨w.heap.size + 1, 0, none⟩)], args := #[] }] } W := by
  have o0 : W.ownsRow w.heap.size 35 3 S l.length (wksCells l) := h.o 0 _ rfl
  have o1 : W.ownsRow w.heap.size 3 1 O o.length (o.map vInt) := h.o 1 _ rfl
  obtain ⟨A1, c1, rfl⟩ := own_form o0
  obtain ⟨A2, c2, rfl⟩ := own_form o1
  show Leaves _ _ _ _ _ _ _
  refine leaves_cons (f := 71) (args := #[.pointer (some ⟨w.heap.size + 1, 0, none⟩)]) (by simp) (by simp [go_sem]) ?_
  refine (catchIdle _ W).mono ?_
  rintro e' u' w' ⟨rfl, rfl, rfl⟩
  refine ⟨_, rdK_results h.c he tmps ht2 ht3, p, s, A1, A2, l.length, c1, o.length, c2, by rw [hE], k, fun h0 => ?_⟩
  rw [hv (hE.symm.trans h0)]
  exact ⟨rfl, rfl, rfl, rfl, o0, o1⟩
theorem Has.reset {W : World} {g i : Nat} {t : TypeId} {cs : List Value} {u : Value} (h : Has W g t cs) (hi : cs[i]? = some u) : Has (W.setCell ⟨g, i, none⟩ u) g t cs := by
  have := h.set i u
  obtain ⟨hl, rfl⟩ := List.getElem?_eq_some_iff.1 hi
  rwa [List.set_getElem_self] at this
theorem RowsH.reset {W : World} {B g i : Nat} {T : TypeId} {hd : List Value} {rs : List RowD} {u : Value} (h : RowsH W B g T hd rs) (hi : (hd ++ rs.map RowD.v)[i]? = some u) : RowsH (W.setCell ⟨g, i, none⟩ u) B g T hd rs := by
  have k : KeepB (fun q => q = g) W (W.setCell ⟨g, i, none⟩ u) := KeepB.set (S := fun q => q = g) W rfl i u
  refine ⟨h.c.reset hi, fun j r hj => k.own (h.o j r hj) (fun b hb e => ?_), h.d, h.t, h.b, Nat.le_trans h.z k.size⟩
  subst e
  exact h.ne hj hb
theorem RdK.facts {w W : World} {bs : List UInt8} {p s : Int} {l : List Wk} {o : List Int} {S O : Value} (h : RdK w W bs p s l o S O) :
    W.cell? ⟨w.heap.size, 0, none⟩ = some (.int .i64 p) ∧ W.cell? ⟨w.heap.size, 1, none⟩ = some (.int .i64 s) ∧ W.cell? ⟨w.heap.size, 2, none⟩ = some S ∧ W.cell? ⟨w.heap.size, 3, none⟩ = some O ∧ W.cell? ⟨w.heap.size + 1, 0, none⟩ = some (.int .i64 0) ∧
    W.frozen? ⟨w.heap.size, 0, none⟩ = false ∧ W.frozen? ⟨w.heap.size, 1, none⟩ = false ∧ W.frozen? ⟨w.heap.size, 2, none⟩ = false ∧ W.frozen? ⟨w.heap.size, 3, none⟩ = false ∧ W.frozen? ⟨w.heap.size + 1, 0, none⟩ = false ∧ w.heap.size < W.heap.size ∧ w.heap.size + 1 < W.heap.size :=
  ⟨h.rows.cell 0, h.rows.cell 1, h.rows.cell 2, h.rows.cell 3, h.ec.cell 0, h.rows.c.free 0, h.rows.c.free 1, h.rows.c.free 2, h.rows.c.free 3, h.ec.free 0, h.rows.c.lt, h.ec.lt⟩
theorem rdK_fin {w W : World} {bs cur : List UInt8} {p s e : Int} {l : List Wk} {o : List Int} {S O : Value} (h : RdK w W cur p s l o S O) (hE : (rdP bs).1 = e) (hv : e = 0 → (rdP bs).2 = ⟨p, s, l, o⟩)
    (tmps : Array Value) (ht2 : tmps.getD 2 undef = .pointer (some ⟨w.heap.size, 0, none⟩)) (ht3 : tmps.getD 3 undef = .pointer (some ⟨w.heap.size + 1, 0, none⟩)) :
    bodyPostD Try.prog Try.f50 (RetRv bs w) .ret { tmps := tmps, defers := [{ target := .fn (.func 71) #[.pointer (some ⟨w.heap.size + 1, 0, none⟩)], args := #[] }] }
      (((((W.setCell ⟨w.heap.size, 0, none⟩ (.int .i64 p)).setCell ⟨w.heap.size, 1, none⟩ (.int .i64 s)).setCell ⟨w.heap.size, 2, none⟩ S).setCell ⟨w.heap.size, 3, none⟩ O).setCell ⟨w.heap.size + 1, 0, none⟩ (.int .i64 e)) := by
  have r1 := h.rows.reset (i := 0) rfl
  have r2 := r1.reset (i := 1) rfl
  have r3 := r2.reset (i := 2) rfl
  have r4 := r3.reset (i := 3) rfl
  have g := (((h.ec.far (b := w.heap.size) (by omega) 0 (.int .i64 p)).far (b := w.heap.size) (by omega) 1 (.int .i64 s)).far (b := w.heap.size) (by omega) 2 S).far (b := w.heap.size) (by omega) 3 O
  have kk := KeepB.set (S := fun q => q = w.heap.size + 1) ((((W.setCell ⟨w.heap.size, 0, none⟩ (.int .i64 p)).setCell ⟨w.heap.size, 1, none⟩ (.int .i64 s)).setCell ⟨w.heap.size, 2, none⟩ S).setCell ⟨w.heap.size, 3, none⟩ O) rfl 0 (.int .i64 e)
  have hne : ∀ (i : Nat) (r : RowD) (b : Nat), (svRows l o S O)[i]? = some r → r.v.ownBlock = some b → ¬ b = w.heap.size + 1 := fun i r b hi hb e => by
    subst e
    refine g.ne_own (r4.o i r hi) ?_ hb
    rcases svRows_mem hi with e | e <;> rw [e] <;> decide
  have r5 := r4.keep kk (by omega) hne
  refine rdK_ret r5 (g.set 0 _) (h.keep.trans ?_) hE hv tmps ht2 ht3
  have k1 := KeepB.set (S := fun q => w.heap.size ≤ q) W (Nat.le_refl w.heap.size) 0 (.int .i64 p)
  have k2 := k1.trans (KeepB.set _ (Nat.le_refl w.heap.size) 1 (.int .i64 s))
  have k3 := k2.trans (KeepB.set _ (Nat.le_refl w.heap.size) 2 S)
  have k4 := k3.trans (KeepB.set _ (Nat.le_refl w.heap.size) 3 O)
  have k5 := k4.trans (KeepB.set _ (Nat.le_succ w.heap.size) 0 (.int .i64 e))
  exact k5.below (fun r e => e) h.rows.z
/-- where the reader panics, the error of the form is returned -/
theorem rdK_panic {w W : World} {bs cur : List UInt8} {p s : Int} {l : List Wk} {o : List Int} {S O : Value} (h : RdK w W cur p s l o S O) (hE : (rdP bs).1 = 6) (tmps : Array Value) (ht2 : tmps.getD 2 undef = .pointer (some ⟨w.heap.size, 0, none⟩)) (ht3 : tmps.getD 3 undef = .pointer (some ⟨w.heap.size + 1, 0, none⟩)) :
    bodyPostD Try.prog Try.f50 (RetRv bs w) (.panic shortP) { tmps := tmps, defers := [{ target := .fn (.func 71) #[.pointer (some ⟨w.heap.size + 1, 0, none⟩)], args := #[] }] } W := by
  have o0 : W.ownsRow w.heap.size 35 3 S l.length (wksCells l) := h.rows.o 0 _ rfl
  have o1 : W.ownsRow w.heap.size 3 1 O o.length (o.map vInt) := h.rows.o 1 _ rfl
  obtain ⟨A1, c1, rfl⟩ := own_form o0
  obtain ⟨A2, c2, rfl⟩ := own_form o1
  show Leaves _ _ _ _ _ _ _
  refine leaves_cons (f := 71) (args := #[.pointer (some ⟨w.heap.size + 1, 0, none⟩)]) (by simp) (by simp [go_sem]) ?_
  refine (catchPanic (w.heap.size + 1) 0 [] W h.ec).mono ?_
  rintro e' u' w' ⟨rfl, rfl, hE2, k⟩
  have hc : Has w' w.heap.size 105 [.int .i64 p, .int .i64 s, .slice A1 l.length c1, .slice A2 o.length c2] := k.has h.rows.c (by omega)
  have kk := k.below (B := w.heap.size) (fun r e => by omega) h.rows.z
  show Leaves _ _ _ _ [] (settle _) _
  refine ⟨_, rdK_results hc hE2 tmps ht2 ht3, p, s, A1, A2, l.length, c1, o.length, c2, by rw [hE], h.keep.trans kk, fun h0 => ?_⟩
  rw [hE] at h0
  exact absurd h0 (by decide)
/-- what must be known where the reader panics -/
def PanK (w : World) (a : Act) (W : World) : Prop := a.tmps.getD 2 undef = .pointer (some ⟨w.heap.size, 0, none⟩) ∧ a.tmps.getD 3 undef = .pointer (some ⟨w.heap.size + 1, 0, none⟩) ∧
  a.defers = [{ target := .fn (.func 71) #[.pointer (some ⟨w.heap.size + 1, 0, none⟩)], args := #[] }] ∧ ∃ (cur : List UInt8) (p s : Int) (l : List Wk) (o : List Int) (S O : Value), RdK w W cur p s l o S O
theorem panK_end {w W : World} {a : Act} {bs : List UInt8} (h : PanK w a W) (hE : (rdP bs).1 = 6) : bodyPostD Try.prog Try.f50 (RetRv bs w) (.panic shortP) a W := by
  obtain ⟨h2, h3, h4, cur, p, s, l, o, S, O, hK⟩ := h
  obtain ⟨tmps, defers⟩ := a
  have h4 : defers = _ := h4
  subst h4
  exact rdK_panic hK hE tmps h2 h3
def ShortQ (w : World) (Q : Exit → Act → World → Prop) : Exit → Act → World → Prop
  | .panic c, a, W => c = shortP ∧ PanK w a W
  | e, a, W => Q e a W
theorem wp_region_short {w : World} {P : Program} {id : Nat} {ops : Array Oper} {b : Bool} {Q : Exit → Act → World → Prop} {a : Act} {W : World} (hp : ∀ a W, PanK w a W → Q (.panic shortP) a W) (h : (Code.region id ops b).wp P (ShortQ w Q) a W) : (Code.region id ops b).wp P Q a W :=
  Code.wp_mono (fun e a W h => by
    cases e
    case panic c =>
      obtain ⟨rfl, h⟩ := h
      exact hp a W h
    all_goals exact h) h
theorem shortQ_put {w : World} {Q : Exit → Act → World → Prop} {d : Tmp} {v : Value} (h2 : d ≠ 2) (h3 : d ≠ 3) (c : List PanicEntry) (a : Act) (W : World) (h : ShortQ w Q (.panic c) (a.put (some d) v) W) : ShortQ w Q (.panic c) a W := by
  obtain ⟨e, g2, g3, g4, g5⟩ := h
  have hne : ∀ t : Nat, d ≠ t → (a.put (some d) v).tmps.getD t undef = a.tmps.getD t undef := fun t ht => by
    simp [Act.put, ht]
  exact ⟨e, (hne 2 h2).symm.trans g2, (hne 3 h3).symm.trans g3, g4, g5⟩
set_option maxRecDepth 100000 in
set_option maxHeartbeats 4000000 in
theorem readC (bs : List UInt8) (A : Option Addr) (n c : Nat) (w : World) (h : RdU8 w w.heap.size A bs) (hl : bs.length = n) (hc : n ≤ c) (hb : n ≤ 41000) :
    Calls Try.prog 50 #[.slice A n c] w (RetRv bs w) := by
  subst hl
  have hmf : ∀ (fn : Fn) (first cap : Array Value) (w : World), (Instr.makeFunc fn first cap).run Try.prog w = .ok (.func fn first cap) w := fun _ _ _ _ => rfl
  have H := Lib.hid h
  clear h
  go_enter_defers Try.func50, Try.ntmps50
  go_wp2_with fail
  have K0 := Lib.hid (rdK_begin w A c bs H.out hc)
  refine (takeC w.heap.size (w.heap.size + 1 + 1) 3 bs _ K0.out.rd (by omega)).mono ?_
  rintro e w1 (⟨hlt, rfl, rfl⟩ | ⟨hge, A1, rfl, r1, h1, k1⟩)
  · go_wp2
    exact rdK_panic K0.out (rdP_short hlt) _ rfl rfl
  have K1 := Lib.hid (K0.out.reader h1 k1)
  have hz := K1.out.rows.z
  have hcv := str_conv (n := 3) (c := 3) (rdU8_up r1 hz) (take_len3 hge)
  clear r1 h1 k1 K0 hge
  obtain ⟨r0, hr0⟩ : ∃ r0, r0 = bs.drop 3 := ⟨_, rfl⟩
  rw [← hr0] at K1
  by_cases h3 : bs.take 3 = [80, 76, 1]
  case neg =>
    have hX : ((⟨(bs.take 3).toArray⟩ : ByteArray).toList == [80, 76, 1]) = false := by
      rw [ByteArray.toList_eq]
      exact beq_eq_false_iff_ne.2 h3
    generalize (⟨(bs.take 3).toArray⟩ : ByteArray) = X at hcv hX
    obtain ⟨c0, c1, c2, c3, d0, fz0, fz1, fz2, fz3, ez, bz, el⟩ := K1.out.facts
    go_wp2
    exact rdK_fin K1.out (rdP_form h3) (fun e => absurd e (by decide)) _ rfl rfl
  have hP : rdP bs = rdBody bs r0 := by unfold rdP; rw [if_pos h3, hr0]
  rw [h3] at hcv
  have hr0l : r0.length ≤ 41000 := by rw [hr0, List.length_drop]; omega
  go_wp2_with fail
  refine (oneC w.heap.size (w.heap.size + 1 + 1) r0 _ K1.out.rd (by omega)).mono ?_
  rintro e w2 (⟨rfl, rfl, rfl⟩ | ⟨xp, r1, rfl, rfl, h2, k2⟩)
  · go_wp2
    exact rdK_panic K1.out (by rw [hP]; rfl) _ rfl rfl
  have K2 := Lib.hid (K1.out.reader h2 k2)
  clear h2 k2 K1 hcv
  have hxp := xp.toNat_lt
  go_wp2_with fail
  refine (oneC w.heap.size (w.heap.size + 1 + 1) r1 _ K2.out.rd (by simp at hr0l; omega)).mono ?_
  rintro e w3 (⟨rfl, rfl, rfl⟩ | ⟨xs, r2, rfl, rfl, h3', k3⟩)
  · go_wp2
    exact rdK_panic K2.out (by rw [hP]; rfl) _ rfl rfl
  have K3 := Lib.hid (K2.out.reader h3' k3)
  clear h3' k3 K2
  have hxs := xs.toNat_lt
  obtain ⟨c0, c1, c2, c3, d0, fz0, fz1, fz2, fz3, ez, bz, el⟩ := K3.out.facts
  go_wp2_with fail
  have K4 := Lib.hid (K3.out.head (xp.toNat : Int) (xs.toNat : Int))
  clear c0 c1 c2 c3 d0 fz0 fz1 fz2 fz3 ez bz el
  refine (twoC w.heap.size (w.heap.size + 1 + 1) r2 _ K4.out.rd (by simp at hr0l; omega)).mono ?_
  rintro e w4 (⟨hlt, rfl, rfl⟩ | ⟨n1, n0, r3, rfl, rfl, h4, k4⟩)
  · go_wp2
    exact rdK_panic K4.out (by
      rw [hP]
      rcases r2 with _ | ⟨a, _ | ⟨b, r⟩⟩
      · rfl
      · rfl
      · simp at hlt; omega) _ rfl rfl
  have K5 := Lib.hid (K4.out.reader h4 k4)
  clear h4 k4 K4 K3
  rw [rdBody_st] at hP
  obtain ⟨N, hN, hNn⟩ : ∃ N : Nat, (n1.toNat : Int) * 256 + (n0.toNat : Int) = (N : Int) ∧ (two8 n1 n0).toNat = N := ⟨n1.toNat * 256 + n0.toNat, by omega, by unfold two8; omega⟩
  rw [hNn] at hP
  rw [hN]
  have hr3 : r3.length ≤ 41000 := by simp at hr0l; omega
  have hr3b : r3.length + 7 = bs.length := by have := congrArg List.length hr0; rw [List.length_drop] at this; simp at this; omega
  have hN2 : N < 65536 := by have := n1.toNat_lt; have := n0.toNat_lt; omega
  have HP := Lib.hid hP
  clear hP hN hNn hr0l hr0 h3
  go_wp2
  go_loopw [25] (fun v wr => ∃ (k m c' : Nat) (A' : Option Addr) (l : List Wk) (cur : List UInt8), k ≤ N ∧ v = .int .i64 (k : Int) ∧ Hid (RdK w wr cur (xp.toNat : Int) (xs.toNat : Int) l [] (.slice A' m c') (.slice none 0 0)) ∧ Hid (m = k ∧ l.length = m ∧ cur.length ≤ r3.length ∧ rdSteps N r3 = (rdSteps (N - k) cur).map (fun x => (l ++ x.1, x.2)))) (fun v _ => N - (intOf v).toNat)
  case atStart =>
    refine ⟨0, 0, 0, none, [], r3, Nat.zero_le _, rfl, K5.out, rfl, rfl, Nat.le_refl _, ?_⟩
    rw [Nat.sub_zero]
    exact (by cases rdSteps N r3 <;> rfl)
  case round =>
    clear K5
    obtain ⟨k, m, c', A', l, cur, hk, rfl, HK, HI⟩ := hrel
    obtain ⟨wo, rfl⟩ : ∃ wo : World, wo = wr := ⟨_, rfl⟩
    obtain ⟨hmk, hlm, hcl, hinv⟩ := HI.out
    subst hlm
    subst hmk
    by_cases hlt : l.length < N
    · have jk : (l.length : Int) < (N : Int) := by omega
      obtain ⟨M, hM⟩ : ∃ M, N - l.length = M + 1 := ⟨N - l.length - 1, by omega⟩
      have HM := Lib.hid hM
      have HINV := Lib.hid hinv
      clear hinv hM HI
      go_wp2_with fail
      refine (oneC w.heap.size (w.heap.size + 1 + 1) cur _ HK.out.rd (by omega)).mono ?_
      rintro e w2 (⟨rfl, rfl, rfl⟩ | ⟨xo, q1, rfl, rfl, h2, k2⟩)
      · go_wp2
        exact rdK_panic HK.out (by rw [HP.out, HINV.out, HM.out, rdSteps_stop _ (by decide)]; rfl) _ rfl rfl
      have K2 := Lib.hid (HK.out.reader h2 k2)
      clear h2 k2 HK
      have hxo := xo.toNat_lt
      have hA2 := (K2.out.rows.o 0 _ rfl).lt
      have hb2 : w.heap.size + 1 + 1 < w2.heap.size := by
        obtain ⟨A, c, hh, _⟩ := K2.out.rd.ex
        exact hh.lt
      have hSb : Hid ((Value.slice A' l.length c').ownBlock ≠ some w2.heap.size) := fun e => by have := (hA2 _ e).2; omega
      have hOb : Hid ((Value.slice none 0 0).ownBlock ≠ some w2.heap.size) := fun e => by cases e
      clear hA2
      go_wp2_with fail
      have K3 := Lib.hid (K2.out.below ((Below.refl _ w2).alloc (Nat.le_refl _) (.cells #[.int .i64 (xo.toNat : Int), .int .i64 0, .string ⟨#[]⟩] 35)))
      have C3 := Lib.hid (Has.new (w := w2) (t := 35) (arr := #[.int .i64 (xo.toNat : Int), .int .i64 0, .string ⟨#[]⟩]) (cs := [.int .i64 (xo.toNat : Int), .int .i64 0, .string ⟨#[]⟩]) rfl)
      clear K2
      refine (oneC w.heap.size (w.heap.size + 1 + 1) q1 _ K3.out.rd (by simp at hcl; omega)).mono ?_
      rintro e w3 (⟨rfl, rfl, rfl⟩ | ⟨xa, q2, rfl, rfl, h3, k3⟩)
      · go_wp2
        exact rdK_panic K3.out (by rw [HP.out, HINV.out, HM.out, rdSteps_stop _ (cur := [xo]) (by simp)]; rfl) _ rfl rfl
      have K4 := Lib.hid (K3.out.reader h3 k3)
      have C4 := Lib.hid (k3.has C3.out (by omega))
      clear h3 k3 K3 C3
      have hxa := xa.toNat_lt
      have b1 : w3.cell? ⟨w2.heap.size, 1, none⟩ = some (.int .i64 0) := C4.out.cell 1
      have bz1 := C4.out.free 1
      have bl := C4.out.lt
      go_wp2_with fail
      have K5 := Lib.hid (K4.out.far hb2 hSb.out hOb.out 1 (.int .i64 (xa.toNat : Int)))
      have C5 : Hid (Has (w3.setCell ⟨w2.heap.size, 1, none⟩ (.int .i64 (xa.toNat : Int))) w2.heap.size 35 [.int .i64 (xo.toNat : Int), .int .i64 (xa.toNat : Int), .string ⟨#[]⟩]) := C4.out.set 1 _
      clear K4 C4 b1 bz1 bl
      refine (oneC w.heap.size (w.heap.size + 1 + 1) q2 _ K5.out.rd (by simp at hcl; omega)).mono ?_
      rintro e w4 (⟨rfl, rfl, rfl⟩ | ⟨xk, q3, rfl, rfl, h4, k4⟩)
      · go_wp2
        exact rdK_panic K5.out (by rw [HP.out, HINV.out, HM.out, rdSteps_stop _ (cur := [xo, xa]) (by simp)]; rfl) _ rfl rfl
      have K6 := Lib.hid (K5.out.reader h4 k4)
      have C6 := Lib.hid (k4.has C5.out (by omega))
      clear h4 k4 K5 C5
      have hxk := xk.toNat_lt
      go_wp2_with fail
      refine (takeC w.heap.size (w.heap.size + 1 + 1) xk.toNat q3 _ K6.out.rd (by simp at hcl; omega)).mono ?_
      rintro e w5 (⟨hsh, rfl, rfl⟩ | ⟨hge, A5, rfl, r5, h5, k5⟩)
      · go_wp2
        exact rdK_panic K6.out (by rw [HP.out, HINV.out, HM.out, rdSteps_word _ hsh]; rfl) _ rfl rfl
      have K7 := Lib.hid (K6.out.reader h5 k5)
      have C7 := Lib.hid (k5.has C6.out (by omega))
      have hz5 := K7.out.rows.z
      have hcv := str_conv (n := xk.toNat) (c := xk.toNat) (rdU8_up r5 hz5) (by rw [List.length_take]; omega)
      clear h5 k5 r5 K6 C6
      have hwd : (⟨(q3.take xk.toNat).toArray⟩ : ByteArray).size = xk.toNat := by
        show (q3.take xk.toNat).toArray.size = _
        rw [List.size_toArray, List.length_take]; omega
      have HNV := Lib.hid (rdSteps_inv HINV.out hlt hge)
      clear HINV
      obtain ⟨wd, hwd2⟩ : ∃ wd : ByteArray, wd = ⟨(q3.take xk.toNat).toArray⟩ := ⟨_, rfl⟩
      rw [← hwd2] at hcv HNV hwd
      clear hwd2
      have b2 : w5.cell? ⟨w2.heap.size, 2, none⟩ = some (.string ⟨#[]⟩) := C7.out.cell 2
      have b1 : w5.cell? ⟨w2.heap.size, 1, none⟩ = some (.int .i64 (xa.toNat : Int)) := C7.out.cell 1
      have b0 : w5.cell? ⟨w2.heap.size, 0, none⟩ = some (.int .i64 (xo.toNat : Int)) := C7.out.cell 0
      have bz2 := C7.out.free 2
      have bl := C7.out.lt
      have hne : ¬ w.heap.size = w2.heap.size := by omega
      obtain ⟨c0, c1, c2, c3, d0, fz0, fz1, fz2, fz3, ez, bz, el⟩ := K7.out.facts
      clear c0 c1 c3 d0 fz0 fz1 fz3 ez el
      have hmk2 : l.length ≤ 65536 := by omega
      have K8 := Lib.hid ((K7.out.far hb2 hSb.out hOb.out 2 (.string wd)).below ((Below.refl _ (w5.setCell ⟨w2.heap.size, 2, none⟩ (.string wd))).alloc (Nat.le_refl _) (.cells #[.int .i64 (xo.toNat : Int), .int .i64 (xa.toNat : Int), .string wd] 35)))
      have e2 : (w5.setCell ⟨w2.heap.size, 2, none⟩ (.string wd)).cell? ⟨w.heap.size, 2, none⟩ = some (.slice A' l.length c') := (K7.out.far hb2 hSb.out hOb.out 2 (.string wd)).facts.2.2.1
      have O8 : Hid (((w5.setCell ⟨w2.heap.size, 2, none⟩ (.string wd)).alloc (.cells #[.int .i64 (xo.toNat : Int), .int .i64 (xa.toNat : Int), .string wd] 35)).ownsRow w.heap.size 35 3 (.slice A' l.length c') l.length (wksCells l)) := K8.out.rows.o 0 _ rfl
      have Z8 : Hid (w.heap.size ≤ ((w5.setCell ⟨w2.heap.size, 2, none⟩ (.string wd)).alloc (.cells #[.int .i64 (xo.toNat : Int), .int .i64 (xa.toNat : Int), .string wd] 35)).heap.size) := K8.out.rows.z
      clear K7 C7
      go_wp2_with (first | (at_builtin; refine wpList_app rfl (.tmp 40) (.tmp 42) _ rfl w.heap.size 35 (.agg #[.int .i64 0, .int .i64 0, .string ⟨#[]⟩]) 3 32 Try.underlying25 infoCs rfl (by omega) (by omega) (.slice A' l.length c') _ _ rfl O8.out w5.heap.size (wkCells ⟨(xo.toNat : Int), (xa.toNat : Int), wd⟩) rfl rfl (news_at _ [.int .i64 (xo.toNat : Int), .int .i64 (xa.toNat : Int), .string wd] _ (by simp [World.setCell])) (one_wk _) (by omega) Z8.out ?_; intro g1 cap1 w6 hg1 hown1 hgrow1 hor1; have K9 := Lib.hid (K8.out.grow0 hgrow1 hown1); have hh := K8.out.has_grown (i := 0) rfl hgrow1; have f2 : w6.cell? ⟨w.heap.size, 2, none⟩ = some (.slice A' l.length c') := hh.cell 2; have fz := hh.free 2; have fl := hh.lt; clear K8 O8 Z8 e2 hh hown1 hgrow1 hor1 b0 b1 b2 bz2 c2 fz2 bz bl hcv) | fail)
      refine ⟨⟨l.length + 1, l.length + 1, cap1, some ⟨g1, 0, none⟩, l ++ [⟨(xo.toNat : Int), (xa.toNat : Int), wd⟩], q3.drop xk.toNat, by omega, rfl, K9, rfl, by rw [List.length_append]; rfl, by rw [List.length_drop]; simp at hcl; omega, HNV.out⟩, ?_⟩
      show N - (l.length + 1) < N - _
      have hcast : (intOf (Value.int .i64 (l.length : Int))).toNat = l.length := rfl
      rw [hcast]
      omega
    · have jk : ¬ (l.length : Int) < (N : Int) := by omega
      obtain rfl : N = l.length := by omega
      have hP2 : rdP bs = rdTail bs (xp.toNat : Int) (xs.toNat : Int) l cur := by
        rw [HP.out, hinv, Nat.sub_self]
        show rdSt _ _ _ (some (l ++ [], cur)) = _
        rw [List.append_nil]
        rfl
      clear HP HI hinv
      go_wp2_with fail
      refine (twoC w.heap.size (w.heap.size + 1 + 1) cur _ HK.out.rd (by omega)).mono ?_
      rintro e w2 (⟨hsh, rfl, rfl⟩ | ⟨m1, m0, q1, rfl, rfl, h2, k2⟩)
      · go_wp2
        exact rdK_panic HK.out (by
          rw [hP2]
          rcases cur with _ | ⟨a, _ | ⟨b, r⟩⟩
          · rfl
          · rfl
          · simp at hsh; omega) _ rfl rfl
      have K2 := Lib.hid (HK.out.reader h2 k2)
      clear h2 k2 HK
      rw [rdTail_ot] at hP2
      obtain ⟨M, hM, hMn⟩ : ∃ M : Nat, (m1.toNat : Int) * 256 + (m0.toNat : Int) = (M : Int) ∧ (two8 m1 m0).toNat = M := ⟨m1.toNat * 256 + m0.toNat, by omega, by unfold two8; omega⟩
      rw [hMn] at hP2
      rw [hM]
      have hq1 : q1.length ≤ 41000 := by simp at hcl; omega
      have hq1b : q1.length + 2 ≤ r3.length := by simp at hcl; omega
      have hM2 : M < 65536 := by have := m1.toNat_lt; have := m0.toNat_lt; omega
      have HP := Lib.hid hP2
      clear hP2 hM hMn hcl
      go_wp2
      go_loopw [48] (fun v wr => ∃ (k m c2 : Nat) (A2 : Option Addr) (o : List Int) (cur : List UInt8), k ≤ M ∧ v = .int .i64 (k : Int) ∧ Hid (RdK w wr cur (xp.toNat : Int) (xs.toNat : Int) l o (.slice A' l.length c') (.slice A2 m c2)) ∧ Hid (o.length = m ∧ m = k ∧ cur.length ≤ q1.length ∧ rdOuts M q1 = (rdOuts (M - k) cur).map (fun x => (o ++ x.1, x.2)))) (fun v _ => M - (intOf v).toNat)
      case atStart =>
        refine ⟨0, 0, 0, none, [], q1, Nat.zero_le _, rfl, K2.out, rfl, rfl, Nat.le_refl _, ?_⟩
        rw [Nat.sub_zero]
        exact (by cases rdOuts M q1 <;> rfl)
      case round =>
        clear K2
        obtain ⟨k, m, c2, A2, o, cur, hk, rfl, HK, HI⟩ := hrel
        obtain ⟨wo, rfl⟩ : ∃ wo : World, wo = wr := ⟨_, rfl⟩
        obtain ⟨hlm, hmk, hcl, hinv⟩ := HI.out
        subst hlm
        subst hmk
        by_cases hlt : o.length < M
        · have jk : (o.length : Int) < (M : Int) := by omega
          obtain ⟨M', hM'⟩ : ∃ M', M - o.length = M' + 1 := ⟨M - o.length - 1, by omega⟩
          have HM := Lib.hid hM'
          have HINV := Lib.hid hinv
          clear hinv hM' HI
          have HD := Lib.hid HK.out.drew
          have cc3 : wo.cell? ⟨w.heap.size, 3, none⟩ = some (.slice A2 o.length c2) := HK.out.facts.2.2.2.1
          clear HK
          by_cases hsh : cur.length < 2
          case pos =>
            have hE6 : Hid ((rdP bs).1 = 6) := by
              show (rdP bs).1 = 6
              rw [HP.out, HINV.out, HM.out, rdOuts_stop _ hsh]; rfl
            have CN := Lib.hid (twoNo w.heap.size (w.heap.size + 1 + 1) cur wo.drew HD.out.rd hsh)
            have hS0 : wo.drew.cell? ⟨w.heap.size, 3, none⟩ = some (.slice A2 o.length c2) := HD.out.facts.2.2.2.1
            go_wp2
            refine wp_region_short (w := w) (fun a W h => ?_) ?_
            · exact panK_end h hE6.out
            refine wp_region_B (fun b W => W.cell? ⟨w.heap.size, 3, none⟩ = some (.slice A2 o.length c2)) 7 (by kernel_rfl) ?_
            refine wpAnyB_take (i := 0) (oi := _) (v := ?v0) (fun W => W.cell? ⟨w.heap.size, 3, none⟩ = some (.slice A2 o.length c2)) rfl (by kernel_rfl) (by kernel_rfl) (by kernel_rfl) (by kernel_rfl) (by rfl) (fun _ h => h) (.inl fun _ h => h) (shortQ_put (by decide) (by decide)) (.inl ⟨by rfl, ?hy0⟩) hS0 ?_
            case hy0 =>
              intro w' hSw
              try dsimp only at hSw
              go_simp
              all_goals with_reducible rfl
            try simp only [Act.put, List.setIfInBounds_toArray]
            refine wpAnyB_take (i := 1) (oi := _) (v := ?v1) (fun W => W.cell? ⟨w.heap.size, 3, none⟩ = some (.slice A2 o.length c2)) rfl (by kernel_rfl) (by kernel_rfl) (by kernel_rfl) (by kernel_rfl) (by rfl) (fun _ h => h) (.inl fun _ h => h) (shortQ_put (by decide) (by decide)) (.inl ⟨by rfl, ?hy1⟩) hS0 ?_
            case hy1 =>
              intro w' hSw
              try dsimp only at hSw
              go_simp
              all_goals with_reducible rfl
            try simp only [Act.put]
            refine wpAnyB_take (i := 2) (oi := _) (v := ?v2) (fun W => W.cell? ⟨w.heap.size, 3, none⟩ = some (.slice A2 o.length c2)) rfl (by kernel_rfl) (by kernel_rfl) (by kernel_rfl) (by kernel_rfl) (by rfl) (fun _ h => h) (.inl fun _ h => h) (shortQ_put (by decide) (by decide)) (.inl ⟨by rfl, ?hy2⟩) hS0 ?_
            case hy2 =>
              intro w' hSw
              try dsimp only at hSw
              go_simp
              all_goals with_reducible rfl
            try simp only [Act.put]
            refine wpAnyB_one (i := 3) false rfl (by kernel_rfl) (by kernel_rfl) ?_
            intro KK hKK
            go_simp
            go_at_call 74
            refine CN.out.mono ?_
            rintro e w2 ⟨rfl, rfl⟩
            exact ⟨rfl, rfl, rfl, rfl, _, _, _, _, _, _, _, HD.out⟩
          obtain ⟨x, y, q, rfl⟩ : ∃ x y q, cur = x :: y :: q := by
            rcases cur with _ | ⟨x, _ | ⟨y, q⟩⟩
            · exact absurd (show ([] : List UInt8).length < 2 by simp) hsh
            · exact absurd (show [x].length < 2 by simp) hsh
            · exact ⟨x, y, q, rfl⟩
          have hol : o.length ≤ 65536 := by omega
          have CT := Lib.hid (twoOk w.heap.size (w.heap.size + 1 + 1) x y q wo.drew HD.out.rd (by simp at hcl; omega))
          have hx := x.toNat_lt
          have hy := y.toNat_lt
          have hS0 : wo.drew.cell? ⟨w.heap.size, 3, none⟩ = some (.slice A2 o.length c2) := HD.out.facts.2.2.2.1
          go_wp2
          refine wp_region_noPanic ?_
          refine wp_region_B (fun b W => b = false → W.cell? ⟨w.heap.size, 3, none⟩ = some (.slice A2 o.length c2)) 7 (by kernel_rfl) ?_
          refine wpAnyB_take (i := 0) (oi := _) (v := ?vb0) (fun W => True) rfl (by kernel_rfl) (by kernel_rfl) (by kernel_rfl) (by kernel_rfl) (by rfl) (fun _ h => trivial) (.inl fun _ h => trivial) (fun _ _ _ h => h) (.inl ⟨by rfl, ?hz0⟩) (fun _ => hS0) ?_
          case hz0 =>
            intro w' hSw
            try dsimp only at hSw
            go_simp
            all_goals with_reducible rfl
          try simp only [Act.put, List.setIfInBounds_toArray]
          refine wpAnyB_take (i := 1) (oi := _) (v := ?vb1) (fun W => W.cell? ⟨w.heap.size, 3, none⟩ = some (.slice A2 o.length c2)) rfl (by kernel_rfl) (by kernel_rfl) (by kernel_rfl) (by kernel_rfl) (by rfl) (fun _ h => h rfl) (.inr (by kernel_rfl)) (fun _ _ _ h => h) (.inl ⟨by rfl, ?hz1⟩) (fun _ => hS0) ?_
          case hz1 =>
            intro w' hSw
            try dsimp only at hSw
            go_simp
            all_goals with_reducible rfl
          try simp only [Act.put]
          refine wpAnyB_take (i := 2) (oi := _) (v := ?vb2) (fun W => True) rfl (by kernel_rfl) (by kernel_rfl) (by kernel_rfl) (by kernel_rfl) (by rfl) (fun _ h => trivial) (.inl fun _ h => trivial) (fun _ _ _ h => h) (.inl ⟨by rfl, ?hz2⟩) (fun _ => hS0) ?_
          case hz2 =>
            intro w' hSw
            try dsimp only at hSw
            go_simp
            all_goals with_reducible rfl
          try simp only [Act.put]
          refine wpAnyB_one (i := 3) false rfl (by kernel_rfl) (by kernel_rfl) ?_
          intro KK hKK
          go_simp
          go_at_call 74
          refine CT.out.mono ?_
          rintro e w2 ⟨rfl, h2, k2⟩
          have K2 := HD.out.reader h2 k2
          refine hKK.out _ _ (fun _ => K2.facts.2.2.2.1) ?_
          clear hKK KK
          try simp only [Act.put, List.setIfInBounds_toArray, List.set_cons_zero, List.set_cons_succ]
          refine wpAnyB_one (i := 4) false rfl (by kernel_rfl) (by kernel_rfl) ?_
          intro KK hKK
          go_simp
          have K3 := K2.below ((Below.refl _ w2).alloc (Nat.le_refl _) (.cells #[.int .i64 ((x.toNat : Int) * 256 + (y.toNat : Int))] 3))
          refine hKK.out _ _ (fun _ => K3.facts.2.2.2.1) ?_
          clear hKK KK
          try simp only [Act.put, List.setIfInBounds_toArray, List.set_cons_zero, List.set_cons_succ]
          refine wpAnyB_one (i := 5) false rfl (by kernel_rfl) (by kernel_rfl) ?_
          intro KK hKK
          refine step_appN rfl (.tmp 51) (.tmp 54) _ rfl w.heap.size 3 (.int .i64 0) 1 8 Try.underlying39 infoInt rfl (by omega) (by omega) (.slice A2 o.length c2) o.length (o.map vInt) rfl (K3.rows.o 1 _ rfl) ⟨w2.heap.size, 0, none⟩ 1 1 [.int .i64 ((x.toNat : Int) * 256 + (y.toNat : Int))] rfl rfl (fun j u hu => by rw [Addr.add_lit, Nat.zero_add]; exact news_lit _ [.int .i64 ((x.toNat : Int) * 256 + (y.toNat : Int))] _ j u hu) (by simp [Value.oneCell']) (by omega) K3.rows.z ?_
          intro v4 w4 hown4 hgrow4 hnil4 hor4
          obtain ⟨A4, c4, rfl⟩ := own_form hown4
          have K4 := K3.grow1 hgrow4 hown4
          have hh4 := K3.has_grown (i := 1) rfl hgrow4
          have e4 : w4.cell? ⟨w.heap.size, 3, none⟩ = some (.slice A2 o.length c2) := hh4.cell 3
          have fz4 := hh4.free 3
          have fl4 := hh4.lt
          refine hKK.out _ _ (fun _ => e4) ?_
          clear hKK KK
          try simp only [Act.put, List.setIfInBounds_toArray]
          refine wpAnyB_take (i := 6) (oi := _) (v := ?vb6) (fun W => True) rfl (by kernel_rfl) (by kernel_rfl) (by kernel_rfl) (by kernel_rfl) (by rfl) (fun _ h => trivial) (.inl fun _ h => trivial) (fun _ _ _ h => h) (.inl ⟨by rfl, ?hz6⟩) (fun _ => e4) ?_
          case hz6 =>
            intro w' hSw
            try dsimp only at hSw
            go_simp
            all_goals with_reducible rfl
          try simp only [Act.put]
          refine wpAnyB_one (i := 7) true rfl (by kernel_rfl) (by kernel_rfl) ?_
          intro KK hKK
          go_simp
          refine hKK.out _ _ (fun hh => by cases hh) ?_
          clear hKK KK
          try simp only [Act.put, List.setIfInBounds_toArray, List.set_cons_zero, List.set_cons_succ]
          refine wpAnyB_done (by kernel_rfl) (NoPanic.normal ?_) _
          have K5 := Lib.hid K4
          have HNV := Lib.hid (rdOuts_inv HINV.out hlt)
          clear K4 K3 K2 HD hh4 e4 fz4 fl4 hown4 hgrow4 hnil4 hor4 HINV hS0 CT h2 k2
          go_wp2
          refine ⟨⟨o.length + 1, o.length + 1, c4, A4, o ++ [two8 x y], q, by omega, rfl, K5, by rw [List.length_append]; rfl, rfl, by simp at hcl; omega, HNV.out⟩, ?_⟩
          show M - (o.length + 1) < M - _
          have hcast : (intOf (Value.int .i64 (o.length : Int))).toNat = o.length := rfl
          rw [hcast]
          omega
        · have jk : ¬ (o.length : Int) < (M : Int) := by omega
          obtain rfl : M = o.length := by omega
          have hP2 : rdP bs = rdEnd bs ⟨(xp.toNat : Int), (xs.toNat : Int), l, o⟩ cur := by
            rw [HP.out, hinv, Nat.sub_self]
            show rdOt _ _ _ _ (some (o ++ [], cur)) = _
            rw [List.append_nil]
            rfl
          clear HP HI hinv
          obtain ⟨AR, cR, hRh, hRc, hRr⟩ := HK.out.rd.ex
          have hRR := Lib.hid hRr
          have cr : wo.cell? ⟨w.heap.size + 1 + 1, 0, none⟩ = some (.slice AR cur.length cR) := hRh.cell 0
          obtain ⟨m, hm⟩ : ∃ m, m = bs.length - cur.length := ⟨_, rfl⟩
          have hmi : (bs.length : Int) - (cur.length : Int) = (m : Int) := by omega
          have hwm : IntKind.i64.wrap (m : Int) = (m : Int) := IntWalk.i64_in _ (by omega)
          have hsl := fun W => slice_to 53 1 (by kernel_rfl) (fun W => by kernel_rfl) A bs.length c m (by omega) W
          have HMm := Lib.hid hm
          clear hRh hRr hm
          have rT : RdU8 wo wo.heap.size A (bs.take m) := fun j x hx => by
            rw [List.getElem?_take] at hx
            split at hx
            · obtain ⟨b, o', e, h1, h2⟩ := H.out j x hx
              exact ⟨b, o', e, by have := HK.out.rows.z; omega, (HK.out.keep.cell (p := ⟨b, o' + j, none⟩) h1).trans h2⟩
            · cases hx
          have CS := Lib.hid (sumC A m c (bs.take m) wo rT (by rw [List.length_take]; omega) (by omega))
          clear rT
          go_wp2_with fail
          refine CS.out.mono ?_
          rintro e w2 ⟨rfl, rfl⟩
          clear cr CS
          go_wp2_with fail
          refine (takeC w.heap.size (w.heap.size + 1 + 1) 4 cur _ HK.out.rd (by omega)).mono ?_
          rintro e w3 (⟨hsh, rfl, rfl⟩ | ⟨hge, A4, rfl, r4, h4, k4⟩)
          · go_wp2
            exact rdK_panic HK.out (by
              rw [hP2]
              rcases cur with _ | ⟨a, _ | ⟨b, _ | ⟨d, _ | ⟨e, r⟩⟩⟩⟩
              · rfl
              · rfl
              · rfl
              · rfl
              · simp at hsh; omega) _ rfl rfl
          obtain ⟨e0, e1, e2, e3, rest, rfl⟩ : ∃ e0 e1 e2 e3 rest, cur = e0 :: e1 :: e2 :: e3 :: rest := by
            rcases cur with _ | ⟨a, _ | ⟨b, _ | ⟨d, _ | ⟨e, r⟩⟩⟩⟩
            · simp at hge
            · simp at hge
            · simp at hge
            · simp at hge
            · exact ⟨_, _, _, _, _, rfl⟩
          have K4 := Lib.hid (HK.out.reader h4 k4)
          clear h4 k4 HK hmi hwm hsl hRR
          obtain ⟨b4, o4, rfl, hb4, y0⟩ := r4 0 e0 rfl
          have Y : ∀ j x, [e0, e1, e2, e3][j]? = some x → w3.cell? ⟨b4, o4 + j, none⟩ = some (vB x) := fun j x hx => by
            obtain ⟨b', o', e', _, hc'⟩ := r4 j x hx
            injection e' with e'
            injection e' with e'1 e'2
            subst e'1 e'2
            exact hc'
          have y1 : w3.cell? ⟨b4, o4 + 1, none⟩ = some (vB e1) := Y 1 e1 rfl
          have y2 : w3.cell? ⟨b4, o4 + 2, none⟩ = some (vB e2) := Y 2 e2 rfl
          have y3 : w3.cell? ⟨b4, o4 + 3, none⟩ = some (vB e3) := Y 3 e3 rfl
          rw [Nat.add_zero] at y0
          clear Y r4
          obtain ⟨AR2, cR2, hR2, _⟩ := K4.out.rd.ex
          have cr2 : w3.cell? ⟨w.heap.size + 1 + 1, 0, none⟩ = some (.slice AR2 rest.length cR2) := hR2.cell 0
          clear hR2
          obtain ⟨c0, c1, c2, c3, d0, fz0, fz1, fz2, fz3, ez, bz, el⟩ := K4.out.facts
          by_cases hr0 : 0 < rest.length
          · have jr : (0 : Int) < (rest.length : Int) := by omega
            go_wp2
            have hE6 : (rdP bs).1 = 6 := by
              rw [hP2]
              cases rest with
              | nil => simp at hr0
              | cons a r => rfl
            exact rdK_fin (e := 6) K4.out hE6 (fun e => absurd e (by decide)) _ rfl rfl
          have jr : ¬ (0 : Int) < (rest.length : Int) := by omega
          obtain rfl : rest = [] := List.eq_nil_of_length_eq_zero (by omega)
          have hm4 : m = bs.length - 4 := HMm.out
          have hP3 : rdP bs = if sumB (bs.take m) = be32 e0 e1 e2 e3 then (0, ⟨(xp.toNat : Int), (xs.toNat : Int), l, o⟩) else (160, ⟨(xp.toNat : Int), (xs.toNat : Int), l, o⟩) := by
            rw [hP2, hm4]
            rfl
          clear hP2 hm4
          go_wp2
          go_big_quiet (fail)
          rw [or_be32]
          have K5 := Lib.hid (K4.out.drewN nq)
          clear c0 c1 c2 c3 d0 fz0 fz1 fz2 fz3 ez bz el K4
          obtain ⟨c0, c1, c2, c3, d0, fz0, fz1, fz2, fz3, ez, bz, el⟩ := K5.out.facts
          by_cases heq : sumB (bs.take m) = be32 e0 e1 e2 e3
          · rw [if_pos heq] at hP3
            have jn : (sumB (bs.take m) != be32 e0 e1 e2 e3) = false := by rw [heq]; exact bne_self_eq_false _
            rw [jn]
            go_wp2
            exact rdK_fin (e := 0) K5.out (by rw [hP3]) (fun _ => by rw [hP3]) _ rfl rfl
          · rw [if_neg heq] at hP3
            have jn : (sumB (bs.take m) != be32 e0 e1 e2 e3) = true := bne_iff_ne.2 heq
            rw [jn]
            go_wp2
            exact rdK_fin (e := 160) K5.out (by rw [hP3]) (fun e => absurd e (by decide)) _ rfl rfl
end Go.Proofs.Ytaenafcecfdffaa
/-
  Contracts of torchonref04: Touch, Same, SameInts.
-/
namespace Go.Proofs.Ytaenafcecfdffaa
open Go.RowKit
set_option maxHeartbeats 400000 in
theorem sameInts04 (A B : Option Addr) (n m c d : Nat) (xs ys : List Int) (w : World) (hn : n ≤ 9223372036854775807) (hm : m ≤ 9223372036854775807) (hx : RdI w w.heap.size A xs) (hy : RdI w w.heap.size B ys) (hl : xs.length = n) (hl' : ys.length = m) :
    Calls Try.prog 17 #[.slice A n c, .slice B m d] w fun e w' => e = .returned (.bool (xs == ys)) ∧ Below w.heap.size w w' := by
  have HX := Lib.hid hx; clear hx
  have HY := Lib.hid hy; clear hy
  have HL := Lib.hid hl; clear hl
  have HM := Lib.hid hl'; clear hl'
  by_cases hnm : n = m
  · subst hnm
    go_enter Try.func17, Try.ntmps17
    go_wp2
    go_loopw [5] (fun i wr => ∃ k : Nat, k ≤ n ∧ i = .int .i64 k ∧ Below w.heap.size w wr ∧ (∀ (j : Nat) (x : Int), j < k → xs[j]? = some x → ys[j]? = some x)) (fun i _ => n - (intOf i).toNat)
    case atStart => exact ⟨0, Nat.zero_le _, rfl, by go_grown, fun j _ hj => absurd hj (by omega)⟩
    case round =>
      obtain ⟨k, hk, rfl, hbw, hno⟩ := hrel
      have H := Lib.hid hno; clear hno
      by_cases hlt : k < n
      · obtain ⟨x, hx⟩ := get_of_lt (l := xs) (k := k) (by rw [HL.out]; exact hlt)
        obtain ⟨y, hy⟩ := get_of_lt (l := ys) (k := k) (by rw [HM.out]; exact hlt)
        obtain ⟨b, o, rfl, hb, c1⟩ := (HX.out.below hbw (Nat.le_refl _)) k x hx
        obtain ⟨b', o', rfl, hb', c1'⟩ := (HY.out.below hbw (Nat.le_refl _)) k y hy
        have HX' := Lib.hid hx; clear hx
        have HY' := Lib.hid hy; clear hy
        go_wp2
        go_quiet (fail)
        go_wp2
        · go_ret
          exact ⟨ret_bool (beq_false (ne_of_get HX'.out HY'.out (by simpa using ‹(x != y) = true›))), below_drewN hbw _⟩
        · go_roundw
          case rel => exact ⟨k + 1, by omega, by go_num, below_drewN hbw _, pw_step H.out HX'.out HY'.out (by simpa using ‹(x != y) = false›)⟩
          case measure => simp [intOf]; omega
      · go_wp2
        go_ret
        exact ⟨ret_bool (beq_true (eq_of_get (by rw [HL.out, HM.out]) (fun j x hx => H.out j x (by have := lt_of_get hx; rw [HL.out] at this; omega) hx))), hbw⟩
  · go_enter Try.func17, Try.ntmps17
    go_wp2
    go_ret
    exact ⟨ret_bool (beq_false (ne_of_len HL.out HM.out hnm)), by go_grown⟩
end Go.Proofs.Ytaenafcecfdffaa
