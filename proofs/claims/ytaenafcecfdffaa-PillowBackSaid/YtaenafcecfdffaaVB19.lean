/-
  Words and contracts of chapter 16 for PillowBack: a step is undone; a pillow beside the bytes that were saved of it.
-/
import Derived.Test.YtaenafcecfdffaaVB11
import Derived.Test.YtaenafcecfdffaaVB15
import Derived.Test.YtaenafcecfdffaaVB17
import Derived.StillTailTactics
namespace Go.Proofs.Ytaenafcecfdffaa
open Go.RowKit
theorem exch_exch {l : List Int} {t : Nat} (ht : t + 1 < l.length) : exch (exch l t) t = l := by
  obtain ⟨la, ha⟩ := get_of_lt (l := l) (k := t) (by omega)
  obtain ⟨lb, hb⟩ := get_of_lt (l := l) (k := t + 1) ht
  obtain ⟨h1, h2, h3⟩ := exch_get ha hb
  obtain ⟨g1, g2, g3⟩ := exch_get h1 h2
  refine List.ext_getElem? fun i => ?_
  by_cases e1 : i = t
  · subst e1; rw [g1, ha]
  · by_cases e2 : i = t + 1
    · subst e2; rw [g2, hb]
    · rw [g3 i e1 e2, h3 i e1 e2]
theorem crLine_back : ∀ (r : List Q4) (l : List Int), crOk l r → r.reverse.foldl crLine (r.foldl crLine l) = l
  | [], _, _ => rfl
  | q :: r, l, h => by
    obtain ⟨h1, h2⟩ := h
    rw [List.reverse_cons, List.foldl_append]
    show crLine (r.reverse.foldl crLine (r.foldl crLine (crLine l q))) q = l
    rw [crLine_back r (crLine l q) h2]
    obtain ⟨t, la, lb, hb, ht, _⟩ := h1
    unfold crLine
    rw [hb, Int.toNat_natCast]
    exact exch_exch ht
theorem step_marks (z : Pil) (x : Wk) : (z.step x).marks = z.marks ++ [⟨z.hands, (z.works.length : Int), (z.xs.length : Int), (z.ps.length : Int)⟩] := by
  unfold Pil.step
  split
  · rfl
  split
  · rfl
  · exact (Pil.letters_all (z.note x) (stepMid x) x.word.data.toList x.word.data.toList.length).2.2.2.1
theorem step_works (z : Pil) (x : Wk) : ∃ ys, (z.step x).works = z.works ++ ys := by
  unfold Pil.step
  split
  · exact ⟨[], by rw [List.append_nil]; rfl⟩
  split
  · exact ⟨_, rfl⟩
  · refine ⟨[⟨1, x.at_, x.word⟩], ?_⟩
    show ((z.note x).letters (stepMid x) x.word.data.toList x.word.data.toList.length).works ++ _ = _
    rw [(Pil.letters_all (z.note x) (stepMid x) x.word.data.toList x.word.data.toList.length).2.1]
    rfl
/-- Back undoes a step -/
theorem back_step {p s : Int} {z : Pil} {x : Wk} (hE : pilE p s z x = 0) (hl : z.l.length = 2 * p.toNat) (hm : z.marks.length = z.steps.length) :
    (z.step x).back z.steps.length z.works.length z.xs.length z.ps.length z.hands = z := by
  obtain ⟨new, pn, f, hG⟩ := step_grew hE hl
  obtain ⟨ys, hw⟩ := step_works z x
  have e1 : (z.step x).steps.take z.steps.length = z.steps := by rw [step_steps, List.take_left]
  have e2 : (z.step x).marks.take z.steps.length = z.marks := by rw [step_marks, ← hm, List.take_left]
  have e3 : (z.step x).works.take z.works.length = z.works := by rw [hw, List.take_left]
  have e4 : (z.step x).xs.take z.xs.length = z.xs := by rw [hG.xs, List.take_left]
  have e5 : (z.step x).ps.take z.ps.length = z.ps := by rw [hG.ps, List.take_left]
  have e6 : ((z.step x).xs.drop z.xs.length).reverse.foldl crLine (z.step x).l = z.l := by
    rw [hG.xs, List.drop_left, hG.l]
    exact crLine_back new z.l hG.ok
  unfold Pil.back
  rw [e1, e2, e3, e4, e5, e6]
/-- every crossing so far is in its places -/
structure CrAll (z : Pil) (n : Nat) : Prop where
  ok : crOk (lineN n) z.xs
  l : z.l = z.xs.foldl crLine (lineN n)
theorem CrAll.step {p s : Int} {z : Pil} {x : Wk} {n : Nat} (h : CrAll z n) (hE : pilE p s z x = 0) (hl : z.l.length = 2 * p.toNat) : CrAll (z.step x) n := by
  obtain ⟨new, pn, f, hG⟩ := step_grew hE hl
  have hok := hG.ok
  refine ⟨?_, ?_⟩
  · rw [hG.xs]
    refine (crOk_join z.xs new (lineN n)).2 ⟨h.ok, ?_⟩
    rw [← h.l]; exact hok
  · rw [hG.xs, hG.l, List.foldl_append, ← h.l]
theorem CrAll.places {z : Pil} {n : Nat} (h : CrAll z n) : ∀ q ∈ z.xs, ∃ t : Nat, q.b = (t : Int) ∧ t + 1 < z.l.length := by
  intro q hq
  obtain ⟨j, hj⟩ := List.getElem?_of_mem hq
  obtain ⟨t, la, lb, hb, ht, _⟩ := crOk_get z.xs (lineN n) h.ok j q hj
  refine ⟨t, hb, ?_⟩
  rw [foldl_cr_len] at ht
  rw [h.l, foldl_cr_len]
  exact ht
theorem zRun_cr {p s : Int} {l : List Wk} (h : goAll p s (pil0 (lineN (2 * p.toNat))) l) : ∀ k, k ≤ l.length → CrAll (zRun (pil0 (lineN (2 * p.toNat))) l k) (2 * p.toNat)
  | 0, _ => ⟨trivial, rfl⟩
  | k + 1, hk => by
    obtain ⟨x, hx⟩ := get_of_lt (l := l) (k := k) (by omega)
    rw [zRun_succ _ hx]
    exact (zRun_cr h k (by omega)).step (go_at h k x hx) (zRun_fine h (Fine.begin p) k (by omega)).b.l
theorem xorB (yk : UInt8) (a : Nat) : bits BinOp.xor IntKind.u8 (yk.toNat : Int) (IntKind.u8.wrap (IntKind.u16.wrap (1 + (a : Int).tmod 255))) = ((yk ^^^ UInt8.ofNat (1 + a % 255)).toNat : Int) := by
  have hy := yk.toNat_lt
  have hr : a % 255 < 255 := Nat.mod_lt _ (by decide)
  rw [Int.tmod_eq_emod_of_nonneg (Int.natCast_nonneg _)]
  have e0 : (1 : Int) + (a : Int) % 255 = ((1 + a % 255 : Nat) : Int) := by omega
  rw [e0, UInt8.toNat_xor, UInt8.toNat_ofNat']
  generalize 1 + a % 255 = r at *
  have hr2 : r ≤ 255 := by omega
  generalize yk.toNat = x at *
  have e1 : IntKind.u16.wrap (r : Int) = (r : Int) := by show (r : Int) % 65536 = _; omega
  have e2 : IntKind.u8.wrap (r : Int) = (r : Int) := by show (r : Int) % 256 = _; omega
  rw [e1, e2]
  have h1 : (BitVec.ofInt 8 (x : Int)).toNat = x := by
    rw [BitVec.ofInt_natCast, BitVec.toNat_ofNat]; exact Nat.mod_eq_of_lt (by omega)
  have h2 : (BitVec.ofInt 8 (r : Int)).toNat = r := by
    rw [BitVec.ofInt_natCast, BitVec.toNat_ofNat]; exact Nat.mod_eq_of_lt (by omega)
  show IntKind.u8.wrap ((BitVec.ofInt 8 (x : Int) ^^^ BitVec.ofInt 8 (r : Int)).toNat : Int) = _
  rw [BitVec.toNat_xor, h1, h2]
  have hx : x ^^^ r < 2 ^ 8 := Nat.xor_lt_two_pow (by omega) (by omega)
  have hm : r % 2 ^ 8 = r := Nat.mod_eq_of_lt (by omega)
  rw [hm]
  generalize x ^^^ r = q at *
  show (q : Int) % 256 = (q : Int)
  omega
theorem xor_ne (yk : UInt8) (a : Nat) : yk ^^^ UInt8.ofNat (1 + a % 255) ≠ yk := fun h => by
  have hr : a % 255 < 255 := Nat.mod_lt _ (by decide)
  have e := congrArg UInt8.toNat h
  rw [UInt8.toNat_xor, UInt8.toNat_ofNat'] at e
  have hm : (1 + a % 255) % 2 ^ 8 = 1 + a % 255 := Nat.mod_eq_of_lt (by omega)
  rw [hm] at e
  have h1 : 1 ≤ 1 + a % 255 := Nat.le_add_right _ _
  generalize 1 + a % 255 = r at *
  have e2 : yk.toNat ^^^ (yk.toNat ^^^ r) = r := by rw [← Nat.xor_assoc, Nat.xor_self, Nat.zero_xor]
  rw [e, Nat.xor_self] at e2
  omega
theorem ldP_odd (p s : Int) (z : Pil) (k : Nat) (y : UInt8) (hk : k < (saveB p s z).length) (hy : (saveB p s z)[k]? ≠ some y) : (ldP ((saveB p s z).set k y)).1 ≠ 0 := by
  have h := rdP_odd p s z k y hk hy
  unfold ldP
  by_cases h4 : 40000 < ((saveB p s z).set k y).length
  · rw [if_pos h4]
    show (3 : Int) ≠ 0
    decide
  · rw [if_neg h4, if_pos h]
    exact h
theorem rd_set {w : World} {g n : Nat} {bs : List UInt8} {base c k : Nat} {y : UInt8} (h : w.ownsRow base 5 1 (.slice (some ⟨g, 0, none⟩) n c) n (bs.map vB)) (hk : k < bs.length) : RdU8 (w.setCell ⟨g, k, none⟩ (vB y)) (w.setCell ⟨g, k, none⟩ (vB y)).heap.size (some ⟨g, 0, none⟩) (bs.set k y) := fun j x hx => by
  have hz : (w.setCell ⟨g, k, none⟩ (vB y)).heap.size = w.heap.size := by simp [World.setCell]
  refine ⟨g, 0, rfl, by rw [hz]; exact (h.lt g rfl).2, ?_⟩
  rw [Nat.zero_add]
  obtain ⟨u0, hu0⟩ := get_of_lt (l := bs) (k := j) (by have := lt_of_get hx; rw [List.length_set] at this; exact this)
  obtain ⟨b', e, _, _, c0⟩ := own_at h (j := j) (u := vB u0) (by rw [List.getElem?_map, hu0]; rfl)
  injection e with e
  injection e with e
  subst e
  by_cases hjk : k = j
  · subst hjk
    rw [List.getElem?_set_self hk] at hx
    injection hx with hx
    subst hx
    exact World.cell?_setCell_same' _ _ _ (by rw [c0]; rfl)
  · rw [List.getElem?_set_ne hjk, hu0] at hx
    injection hx with hx
    subst hx
    rw [World.cell?_setCell_other _ _ _ _ (fun e => hjk (by injection e))]
    exact c0
/-! ### a pillow beside what was saved -/
def SavP (W : World) (B g : Nat) (p s : Int) (z : Pil) (A : Option Addr) (n c : Nat) (bss : List (List UInt8)) (vals : List Value) : Prop :=
  OneP W B g p s z ∧ W.ownsRow B 53 1 (.slice A n c) n vals ∧ vals.length = n ∧ bss.length = n ∧
    ∀ (j : Nat) (bs : List UInt8), bss[j]? = some bs → ∃ A' c', vals[j]? = some (.slice A' bs.length c') ∧ W.ownsRow B 5 1 (.slice A' bs.length c') bs.length (bs.map vB)
theorem pil_types {z : Pil} {S M V L X P : Value} {i : Nat} {r : RowD} (hi : (pilRows z S M V L X P)[i]? = some r) : r.e ≠ 5 ∧ r.e ≠ 53 := by
  have hm := mem_of_get hi
  simp only [pilRows, List.mem_cons, List.not_mem_nil, or_false] at hm
  rcases hm with rfl | rfl | rfl | rfl | rfl | rfl <;> exact ⟨by simp, by simp⟩
section
variable {W W' : World} {B g : Nat} {p s : Int} {z : Pil} {A : Option Addr} {n c : Nat} {bss : List (List UInt8)} {vals : List Value}
/-- a row of bytes, or of lists of bytes, is no part of a pillow -/
theorem pil_apart {S M V L X P v : Value} {e : TypeId} {m size : Nat} {xs : List Value} (h : PilH W B g p s z S M V L X P) (o : W.ownsRow B e size v m xs) (he : e = 5 ∨ e = 53) {b : Nat} (hb : v.ownBlock = some b) : ¬ blkV g [S, M, V, L, X, P] b := by
  rintro (rfl | ⟨u, hu, hub⟩)
  · exact (RowsH.c h).ne_own o (by rcases he with rfl | rfl <;> decide) hb
  · have hi : ∃ (i : Nat) (r : RowD), (pilRows z S M V L X P)[i]? = some r ∧ r.v = u := by
      simp only [List.mem_cons, List.not_mem_nil, or_false] at hu
      rcases hu with rfl | rfl | rfl | rfl | rfl | rfl
      · exact ⟨0, _, rfl, rfl⟩
      · exact ⟨1, _, rfl, rfl⟩
      · exact ⟨2, _, rfl, rfl⟩
      · exact ⟨3, _, rfl, rfl⟩
      · exact ⟨4, _, rfl, rfl⟩
      · exact ⟨5, _, rfl, rfl⟩
    obtain ⟨i, r, hi, rfl⟩ := hi
    obtain ⟨t1, t2⟩ := pil_types hi
    exact own_apart o (RowsH.o h i r hi) (by rcases he with rfl | rfl; · exact fun e => t1 e.symm
                                             · exact fun e => t2 e.symm) hb hub
theorem SavP.begin (h : OneP W B g p s z) : SavP W B g p s z none 0 0 [] [] := ⟨h, World.ownsRow_nil _ _ _ _, rfl, rfl, fun j bs hj => by simp at hj⟩
theorem SavP.below (h : SavP W B g p s z A n c bss vals) (hb : Below W.heap.size W W') : SavP W' B g p s z A n c bss vals := by
  obtain ⟨h1, h2, h3, h4, h5⟩ := h
  refine ⟨h1.below hb, own_below h2 hb, h3, h4, fun j bs hj => ?_⟩
  obtain ⟨A', c', e, o⟩ := h5 j bs hj
  exact ⟨A', c', e, own_below o hb⟩
theorem SavP.keep {z' : Pil} {S M V L X P : Value} (h : SavP W B g p s z A n c bss vals) (h1 : PilH W B g p s z S M V L X P) (h' : OneP W' B g p s z') (k : KeepB (blkV g [S, M, V, L, X, P]) W W') : SavP W' B g p s z' A n c bss vals := by
  obtain ⟨_, h2, h3, h4, h5⟩ := h
  refine ⟨h', k.own h2 (fun r hr => pil_apart h1 h2 (.inr rfl) hr), h3, h4, fun j bs hj => ?_⟩
  obtain ⟨A', c', e, o⟩ := h5 j bs hj
  exact ⟨A', c', e, k.own o (fun r hr => pil_apart h1 o (.inl rfl) hr)⟩
theorem SavP.do_ {x : Wk} {m : Nat} (q : SavP W B g p s z A n c bss vals) (hB : Bnd p z m) (hn : m < 1000) (hE : pilE p s z x = 0) :
    Calls Try.prog 12 #[.pointer (some ⟨g, 0, none⟩), .agg #[.int .i64 x.kind, .int .i64 x.at_, .string x.word]] W fun e w' => e = .returned (.int .i64 0) ∧ SavP w' B g p s (z.step x) A n c bss vals ∧ Below B W w' := by
  obtain ⟨S, M, V, L, X, P, h1⟩ := q.1
  obtain ⟨b1, b2, b3, b4, b5, b6⟩ := hB
  have hw := (wchk_zero (pilE_zero hE).2.2.2.1).1
  refine (doC B g p s z S M V L X P x W h1 (by omega) (by omega) (by omega) b3 (by omega) (by omega) b6 hE).mono ?_
  rintro e w' ⟨rfl, ⟨S1, M1, V1, L1, X1, P1, h1', hg⟩, hb⟩
  exact ⟨rfl, q.keep h1 ⟨S1, M1, V1, L1, X1, P1, h1'⟩ hg.keep, hb⟩
theorem SavP.back {x : Wk} {m N : Nat} (q : SavP W B g p s (z.step x) A n c bss vals) (hF : Fine p z m) (hn : m < 1000) (hp : 2 ≤ p ∧ p ≤ 24) (hC : CrAll (z.step x) N) (hE : pilE p s z x = 0) :
    Calls Try.prog 23 #[.pointer (some ⟨g, 0, none⟩)] W fun e w' => e = .returned (.int .i64 0) ∧ SavP w' B g p s z A n c bss vals ∧ Below B W w' := by
  obtain ⟨S, M, V, L, X, P, h1⟩ := q.1
  obtain ⟨b1, b2, b3, b4, b5, b6⟩ := hF.b
  obtain ⟨c1, c2, c3, c4, c5, c6⟩ := hF.b.step hE
  have hmk : (z.step x).marks[m]? = some ⟨z.hands, (z.works.length : Int), (z.xs.length : Int), (z.ps.length : Int)⟩ := by
    rw [step_marks, ← b2]
    simp
  obtain ⟨new, pn, f, hG⟩ := step_grew hE b6
  obtain ⟨ys, hw⟩ := step_works z x
  have hbk := back_step hE b6 (by omega)
  rw [b1] at hbk
  refine (backC B g p s (z.step x) S M V L X P W h1 (by omega) m z.works.length z.xs.length z.ps.length z.hands (by omega) (by omega) (by omega) hmk (by rw [hw, List.length_append]; omega) (by rw [hG.xs, List.length_append]; omega) (by rw [hG.ps, List.length_append]; omega) hC.places (by omega) (by omega) (by omega)).mono ?_
  rintro e w' ⟨rfl, S1, M1, V1, L1, X1, P1, h1', hk⟩
  rw [hbk] at h1'
  exact ⟨rfl, q.keep h1 ⟨S1, M1, V1, L1, X1, P1, h1'⟩ hk, pil_below h1 hk⟩
/-- what was saved once more is laid behind the others -/
theorem SavP.push {A' : Option Addr} {c' : Nat} {bs : List UInt8} {G : Option Addr} {cap : Nat} (q : OneP W B g p s z) (o : W.ownsRow B 53 1 (.slice A n c) n vals) (hv : vals.length = n) (hb : bss.length = n)
    (h5 : ∀ (j : Nat) (bs : List UInt8), bss[j]? = some bs → ∃ A' c', vals[j]? = some (.slice A' bs.length c') ∧ W.ownsRow B 5 1 (.slice A' bs.length c') bs.length (bs.map vB))
    (ob : W.ownsRow B 5 1 (.slice A' bs.length c') bs.length (bs.map vB)) (k : W.grownBy W' (Value.slice A n c).ownBlock) (o' : W'.ownsRow B 53 1 (.slice G (n + 1) cap) (n + 1) (vals ++ [.slice A' bs.length c'])) :
    SavP W' B g p s z G (n + 1) cap (bss ++ [bs]) (vals ++ [.slice A' bs.length c']) := by
  have kk : KeepB (fun r => some r = (Value.slice A n c).ownBlock) W W' := KeepB.grown k (fun _ e => e)
  have hk : ∀ (bs : List UInt8) (A' : Option Addr) (c' : Nat), W.ownsRow B 5 1 (.slice A' bs.length c') bs.length (bs.map vB) → W'.ownsRow B 5 1 (.slice A' bs.length c') bs.length (bs.map vB) := fun bs A' c' h => kk.own h (fun r hr e => own_apart h o (by decide) hr e.symm)
  obtain ⟨S, M, V, L, X, P, h1⟩ := q
  refine ⟨⟨S, M, V, L, X, P, pil_keep h1 kk (fun b hb e => pil_apart h1 o (.inr rfl) e.symm hb)⟩, o', by rw [List.length_append, hv]; rfl, by rw [List.length_append, hb]; rfl, fun j cs hj => ?_⟩
  by_cases hjn : j < n
  · rw [List.getElem?_append_left (by omega)] at hj
    obtain ⟨A1, c1, e, h⟩ := h5 j cs hj
    exact ⟨A1, c1, by rw [List.getElem?_append_left (by omega)]; exact e, hk _ _ _ h⟩
  · rw [List.getElem?_append_right (by omega), hb] at hj
    have hj0 : j - n = 0 := by have := lt_of_get hj; simp at this; omega
    rw [hj0] at hj
    obtain rfl : bs = cs := by simpa using hj
    exact ⟨A', c', by rw [List.getElem?_append_right (by omega), hv, hj0]; rfl, hk _ _ _ ob⟩
end
end Go.Proofs.Ytaenafcecfdffaa
/-
  The walk of PillowBack.
-/
namespace Go.Proofs.Ytaenafcecfdffaa
open Go.RowKit
theorem infoBB : (Try.prog.info? 53).map (fun i => (i.zero, i.size, i.bytes)) = some (some (.slice none 0 0), 1, 24) := by kernel_rfl
def savL (p b : Int) (z0 : Pil) (sl : List Wk) (k : Nat) : List (List UInt8) := (List.range k).map (fun j => saveB p b (zRun z0 sl j))
theorem savL_succ (p b : Int) (z0 : Pil) (sl : List Wk) (k : Nat) : savL p b z0 sl (k + 1) = savL p b z0 sl k ++ [saveB p b (zRun z0 sl k)] := by simp [savL, List.range_succ]
theorem savL_get (p b : Int) (z0 : Pil) (sl : List Wk) {k j : Nat} (h : j < k) : (savL p b z0 sl k)[j]? = some (saveB p b (zRun z0 sl j)) := by simp [savL, h]
set_option maxRecDepth 100000 in
set_option maxHeartbeats 1000000 in
theorem backP (p : Int) (A : Option Addr) (n c : Nat) (b : Int) (a0 a1 : Nat) (ws : List Wk) (w : World) (hn : n ≤ 9223372036854775807) (hw : RdW w w.heap.size A ws) (hl : ws.length = n) (hs : ∀ x ∈ ws, x.word.size ≤ 9223372036854775807) (ha0 : a0 < 65536) :
    Calls Try.prog 8 #[.agg #[.int .i64 p, .slice A n c], .int .i64 b, .agg #[.int .u16 (a0 : Int), .int .u16 (a1 : Int)]] w fun e w' => e = .returned (.bool true) ∧ Below w.heap.size w w' := by
  have CS := Lib.hid (fun (W : World) (hb : Below w.heap.size w W) => stepsC p b A n c ws W hn (hw.up hb) hl hs)
  have K0 : Has ((w.alloc (.cells #[.int .i64 p, .slice A n c] 24)).alloc (.cells #[.int .u16 (a0 : Int), .int .u16 (a1 : Int)] 68)) w.heap.size 24 [.int .i64 p, .slice A n c] := (Has.new (w := w) rfl).alloc _
  have J0 := Has.new2 (w := w) (o := .cells #[.int .i64 p, .slice A n c] 24) (arr := #[.int .u16 (a0 : Int), .int .u16 (a1 : Int)]) (t := 68) (cs := [.int .u16 (a0 : Int), .int .u16 (a1 : Int)]) rfl
  have HL := Lib.hid hl
  have HBG : Hid (ckS p b ws = 0 → ws.length ≤ 60 → (2 ≤ p ∧ p ≤ 24) ∧ (2 ≤ b ∧ b ≤ 8) ∧ csE p b [] = 0 ∧ goAll p b (pil0 (lineN (2 * p.toNat))) (stAll p b (-1) ws) ∧ (stAll p b (-1) ws).length ≤ 2 * ws.length) := fun h0 h1 => beg16 h0 h1
  clear hw hl hs
  go_enter Try.func8, Try.ntmps8
  go_wp2_with fail
  refine (CS.out _ (by go_grown)).mono ?_
  rintro e w1 ⟨hres, hb1⟩
  have B1 := Lib.hid (bvia (show Below w.heap.size w _ by go_grown) hb1)
  have HB := Lib.hid (K0.below hb1 K0.lt)
  have HJ := Lib.hid (J0.below hb1 J0.lt)
  rcases hres with ⟨h0, rfl⟩ | ⟨h0, A2, n2, c2, rfl, r2, l2⟩
  · have e1 : (ckS p b ws != 0) = true := by simpa using h0
    generalize ckS p b ws = er at *
    clear h0 K0 J0 hb1 CS
    go_wp2_with fail
    refine (awakeP _).mono ?_
    rintro e w2 ⟨rfl, hb2⟩
    go_wp2
    go_ret
    exact ⟨rfl, bvia B1.out hb2⟩
  have R2 := Lib.hid (own_rdW r2)
  have L2 := Lib.hid l2
  have d0 : w1.cell? ⟨w.heap.size, 0, none⟩ = some (.int .i64 p) := HB.out.cell 0
  have d1 : w1.cell? ⟨w.heap.size, 1, none⟩ = some (.slice A n c) := HB.out.cell 1
  have q0 := HB.out.lt
  by_cases h40 : 40 < n
  · have j40 : (40 : Int) < (n : Int) := by omega
    clear h0 K0 J0 hb1 CS r2 l2
    go_wp2_with fail
    refine (awakeP _).mono ?_
    rintro e w2 ⟨rfl, hb2⟩
    go_wp2
    go_ret
    exact ⟨rfl, bvia B1.out hb2⟩
  have j40 : decide ((40 : Int) < (n : Int)) = false := decide_eq_false (by omega)
  obtain ⟨hp, hsp, hcs, hgo, hst⟩ := HBG.out h0 (by rw [HL.out]; omega)
  have hst2 : n2 ≤ 80 := by rw [HL.out] at hst; omega
  have HLS := Lib.hid (fun k hk => load_save hp hsp hcs hgo (by omega) k hk)
  have HFI := Lib.hid (fun k hk => zRun_fine hgo (Fine.begin p) k hk)
  have HGO := Lib.hid (go_at hgo)
  have HCR := Lib.hid (fun k hk => zRun_cr hgo k hk)
  have CN := Lib.hid (fun W => newC p b W hcs)
  obtain ⟨sl, hsl⟩ : ∃ sl, sl = stAll p b (-1) ws := ⟨_, rfl⟩
  rw [← hsl] at R2 L2 HLS HFI HGO HCR
  obtain ⟨z0, hz0⟩ : ∃ z0, z0 = pil0 (lineN (2 * p.toNat)) := ⟨_, rfl⟩
  rw [← hz0] at HLS HFI HGO CN HCR
  clear h0 K0 J0 hb1 CS r2 l2 hcs hgo hst hsl hz0 HBG
  go_wp2_with fail
  refine (CN.out _).mono ?_
  rintro e w3 ⟨⟨g, S3, M3, V3, L3, X3, P3, rfl, h3⟩, hb3⟩
  have S3 := Lib.hid (SavP.begin (show OneP w3 w1.heap.size g p b z0 from ⟨S3, M3, V3, L3, X3, P3, h3⟩))
  have B3 := Lib.hid hb3
  clear h3 d0 d1 hb3 CN q0
  go_wp2
  go_loopw [10, 11] (fun sv i wr => ∃ (k c' : Nat) (A' : Option Addr) (vals : List Value), k ≤ n2 ∧ i = .int .i64 (k : Int) ∧ sv = .slice A' k c' ∧ Hid (SavP wr w1.heap.size g p b (zRun z0 sl k) A' k c' (savL p b z0 sl k) vals) ∧ Hid (Below w1.heap.size w1 wr)) (fun _ i _ => n2 - (intOf i).toNat)
  case atStart => exact ⟨0, 0, none, [], Nat.zero_le _, rfl, rfl, S3, B3⟩
  case round =>
    clear S3 B3
    obtain ⟨k, c', A', vals, hk, rfl, rfl, HS, HBW⟩ := hrel
    obtain ⟨wo, rfl⟩ : ∃ wo : World, wo = wr := ⟨_, rfl⟩
    by_cases hlt : k < n2
    · have jk : (k : Int) < (n2 : Int) := by omega
      obtain ⟨x, hx⟩ := get_of_lt (l := sl) (k := k) (by rw [L2.out]; exact hlt)
      have hE := HGO.out k x hx
      have hFk := HFI.out k (by rw [L2.out]; omega)
      have HZS := Lib.hid (zRun_succ z0 hx)
      have CSv := Lib.hid (HS.out.1.save hFk.b (by omega) (by omega) (fun x hx => (hFk.st x hx).2.2.2.2))
      have RX := Lib.hid (fun W (q : Below w1.heap.size w1 W) => (R2.out.up q) k x hx)
      clear hx
      go_wp2_with fail
      refine CSv.out.mono ?_
      rintro e w4 ⟨A4, n4, c4, rfl, o4, l4, hb4⟩
      subst l4
      have hz4 := hb4.size
      have S4 := Lib.hid (HS.out.below (bvia hb4 ((Below.refl w4.heap.size w4).alloc (Nat.le_refl _) (.cells #[.slice A4 (saveB p b (zRun z0 sl k)).length c4] 53))))
      have O4 := Lib.hid (own_mono (own_below o4 ((Below.refl w4.heap.size w4).alloc (Nat.le_refl _) (.cells #[.slice A4 (saveB p b (zRun z0 sl k)).length c4] 53))) HS.out.1.size_le)
      have B4 := Lib.hid (bvia HBW.out (bvia hb4 ((Below.refl w4.heap.size w4).alloc (Nat.le_refl _) (.cells #[.slice A4 (saveB p b (zRun z0 sl k)).length c4] 53))))
      clear hb4 o4 HS HBW CSv
      obtain ⟨h1, h2, h3, h4, h5⟩ := S4.out
      have V2 := Lib.hid h2
      have V5 := Lib.hid h5
      have Z4 := Lib.hid h1.size_le
      clear h1 h2 h5
      go_wp2_with (first | (at_builtin; refine wpList_app rfl (.tmp 48) (.tmp 51) _ rfl w1.heap.size 53 (.slice none 0 0) 1 24 Try.underlying73 infoBB rfl (by omega) (by omega) (.slice A' k c') _ _ rfl V2.out w4.heap.size [.slice A4 (saveB p b (zRun z0 sl k)).length c4] rfl rfl (news_at _ [.slice A4 (saveB p b (zRun z0 sl k)).length c4] _ rfl) (by simp [Value.oneCell']) (by omega) Z4.out ?_; intro g1 cap1 w5 hg1 hown1 hgrow1 hor1; have S5 := Lib.hid (SavP.push S4.out.1 V2.out h3 h4 V5.out O4.out hgrow1 hown1); have B5 := Lib.hid (Below.grown B4.out hgrow1 Z4.out (fun r hr => (V2.out.lt r hr).1)); clear hown1 hgrow1 hor1 S4 V2 V5 O4 B4 Z4; obtain ⟨be, o, hA, hbe, q0, q1, q2⟩ := RX.out _ B5.out; subst hA) | fail)
      have CD := Lib.hid (S5.out.do_ (x := x) hFk.b (by omega) hE)
      clear q0 q1 q2 RX
      refine CD.out.mono ?_
      rintro e w6 ⟨rfl, h6, hb6⟩
      have S6 : Hid (SavP w6 w1.heap.size g p b (zRun z0 sl (k + 1)) (some ⟨g1, 0, none⟩) (k + 1) cap1 (savL p b z0 sl (k + 1)) (vals ++ [.slice A4 (saveB p b (zRun z0 sl k)).length c4])) := by
        show SavP _ _ _ _ _ _ _ _ _ _ _
        rw [HZS.out, savL_succ]
        exact h6
      have B6 := Lib.hid (B5.out.trans hb6)
      clear h6 hb6 S5 B5 CD hFk hE HZS
      go_wp2
      refine ⟨⟨k + 1, cap1, some ⟨g1, 0, none⟩, _, by omega, by go_num, rfl, S6, B6⟩, ?_⟩
      first | (simp [intOf]; done) | (simp [intOf]; omega)
    · obtain rfl : k = n2 := by omega
      have jk : ¬ (k : Int) < (k : Int) := by omega
      have hFN := HFI.out k (by rw [L2.out]; exact Nat.le_refl _)
      have hLk := HLS.out k (by rw [L2.out]; exact Nat.le_refl _)
      have hsl := saveB_len p b _ k hFN
      have hsv : ∀ x ∈ (zRun z0 sl k).steps, x.word.size ≤ 16 := fun x hx => (hFN.st x hx).2.2.2.2
      have CA := Lib.hid (HS.out.1.save hFN.b (by omega) (by omega) hsv)
      have HLK := Lib.hid hLk
      have FN := Lib.hid hFN
      have HSV := Lib.hid hsv
      have HLN := Lib.hid hFN.b.l
      have hps := hFN.b.ps
      have hxs := hFN.b.xs
      obtain ⟨z, hz⟩ : ∃ z, z = zRun z0 sl k := ⟨_, rfl⟩
      rw [← hz] at CA HLK FN HSV HLN hps hxs hsl HS
      have HZ := Lib.hid hz
      have hlen0 : ¬ (saveB p b z).length = 0 := by omega
      clear hFN hLk hsv HLS R2 hz
      go_wp2_with fail
      refine CA.out.mono ?_
      rintro e w2 ⟨A2', n2', c2', rfl, o2, l2, hb2⟩
      subst l2
      have hc2 := (own_caps o2).1
      have CL := Lib.hid (loadC _ A2' _ c2' w2 (own_rdB o2) rfl hc2 (by omega))
      have S2 := Lib.hid (HS.out.below hb2)
      have B2 := Lib.hid (bvia HBW.out hb2)
      have O2 := Lib.hid (own_mono o2 HS.out.1.size_le)
      clear hb2 o2 HS HBW CA
      go_wp2_with fail
      refine CL.out.mono ?_
      rintro e w3 ⟨hb3, ⟨hne, _⟩ | ⟨_, h, S6, M6, V6, L6, X6, P6, rfl, h6⟩⟩
      · exact absurd (by rw [HLK.out.1]) hne
      rw [HLK.out.1, HLK.out.2.1, HLK.out.2.2] at h6
      have Q3 : Hid (OneP w3 w1.heap.size h p b z) := ⟨S6, M6, V6, L6, X6, P6, RowsH.base h6 (Nat.le_trans S2.out.1.size_le (Nat.le_refl _))⟩
      have S3 := Lib.hid (S2.out.below hb3)
      have B3 := Lib.hid (bvia B2.out hb3)
      have O3 := Lib.hid (own_below O2.out hb3)
      have CB := Lib.hid (Q3.out.save FN.out.b (by omega) (by omega) HSV.out)
      clear hb3 h6 CL S2 B2 O2 HLK
      go_wp2_with fail
      refine CB.out.mono ?_
      rintro e w4 ⟨A4, n4, c4, rfl, o4, l4, hb4⟩
      subst l4
      have O4 := Lib.hid (own_below O3.out hb4)
      have CC := Lib.hid (sameBytesC A4 A2' (saveB p b z).length c4 c2' (saveB p b z) w4 (own_rdB o4) (own_rdB O4.out) rfl)
      have S4 := Lib.hid (S3.out.below hb4)
      have Q4 := Lib.hid (Q3.out.below hb4)
      have B4 := Lib.hid (bvia B3.out hb4)
      clear hb4 o4 CB S3 Q3 B3 O3
      go_wp2_with fail
      refine CC.out.mono ?_
      rintro e w5 ⟨rfl, rfl⟩
      have CD := Lib.hid (Q4.out.cloth FN.out.b (by omega) ⟨by omega, by omega⟩)
      clear CC
      go_wp2_with fail
      refine CD.out.mono ?_
      rintro e w5 ⟨X5, nx, cx, Y5, ny, cy, rfl, rX, rY, lX, lY, hb5⟩
      have RX := Lib.hid rX
      have RY := Lib.hid rY
      have S5 := Lib.hid (S4.out.below hb5)
      have Q5 := Lib.hid (Q4.out.below hb5)
      have B5 := Lib.hid (bvia B4.out hb5)
      have O5 := Lib.hid (own_below O4.out hb5)
      have CE := Lib.hid (S5.out.1.cloth FN.out.b (by omega) ⟨by omega, by omega⟩)
      clear rX rY hb5 S4 Q4 B4 O4 CD
      go_wp2_with fail
      refine CE.out.mono ?_
      rintro e w6 ⟨X6, nx6, cx6, Y6, ny6, cy6, rfl, rX6, rY6, lX6, lY6, hb6⟩
      rw [List.length_map] at lY lY6
      subst lX lY lX6 lY6
      have CF := Lib.hid (sameCl (2 * p) X5 Y5 X6 Y6 z.xs.length cx z.ps.length cy cx6 cy6 z.xs (z.ps.map Pn.q) w6 (by omega) (by omega) (RX.out.up hb6) rX6 (RY.out.up hb6) rY6 rfl (List.length_map _))
      have S6 := Lib.hid (S5.out.below hb6)
      have Q6 := Lib.hid (Q5.out.below hb6)
      have B6 := Lib.hid (bvia B5.out hb6)
      have O6 := Lib.hid (own_below O5.out hb6)
      clear rX6 rY6 hb6 S5 Q5 B5 O5 CE RX RY
      go_wp2_with fail
      refine CF.out.mono ?_
      rintro e w7 ⟨rfl, hb7⟩
      have S7 := Lib.hid (S6.out.below hb7)
      have Q7 := Lib.hid (Q6.out.below hb7)
      have B7 := Lib.hid (bvia B6.out hb7)
      have O7 := Lib.hid (own_below O6.out hb7)
      have CG := Lib.hid (Q7.out.line FN.out.b ⟨by omega, by omega⟩)
      clear hb7 S6 Q6 B6 O6 CF
      go_wp2_with fail
      refine CG.out.mono ?_
      rintro e w8 ⟨A8, n8, c8, rfl, o8, l8, hb8⟩
      have R8 := Lib.hid (own_rd1 o8)
      have S8 := Lib.hid (S7.out.below hb8)
      have Q8 := Lib.hid (Q7.out.below hb8)
      have B8 := Lib.hid (bvia B7.out hb8)
      have O8 := Lib.hid (own_below O7.out hb8)
      have CH := Lib.hid (S8.out.1.line FN.out.b ⟨by omega, by omega⟩)
      clear o8 hb8 S7 Q7 B7 O7 CG
      go_wp2_with fail
      refine CH.out.mono ?_
      rintro e w9 ⟨A9, n9, c9, rfl, o9, l9, hb9⟩
      subst l8 l9
      have CI := Lib.hid (sameInts04 A8 A9 z.l.length z.l.length c8 c9 z.l z.l w9 (by have := HLN.out; omega) (by have := HLN.out; omega) (Rd1.up R8.out hb9) (own_rd1 o9) rfl rfl)
      have S9 := Lib.hid (S8.out.below hb9)
      have Q9 := Lib.hid (Q8.out.below hb9)
      have B9 := Lib.hid (bvia B8.out hb9)
      have O9 := Lib.hid (own_below O8.out hb9)
      clear o9 hb9 S8 Q8 B8 O8 CH R8
      go_wp2_with fail
      refine CI.out.mono ?_
      rintro e w10 ⟨rfl, hb10⟩
      have jl : (z.l == z.l) = true := beq_self_eq_true _
      rw [jl]
      have S10 := Lib.hid (S9.out.below hb10)
      have Q10 := Lib.hid (Q9.out.below hb10)
      have B10 := Lib.hid (bvia B9.out hb10)
      have O10 := Lib.hid (own_below O9.out hb10)
      have CJ := Lib.hid (Q10.out.hands (by omega))
      have CK := Lib.hid (S10.out.1.hands (by omega))
      clear hb10 S9 Q9 B9 O9 CI jl Q10
      go_wp2_with fail
      refine CJ.out.mono ?_
      rintro e w11 ⟨rfl, rfl⟩
      go_wp2_with fail
      refine CK.out.mono ?_
      rintro e w12 ⟨rfl, rfl⟩
      clear CJ CK
      obtain ⟨bs, hbs⟩ : ∃ bs, bs = saveB p b z := ⟨_, rfl⟩
      rw [← hbs] at O10 hsl hlen0
      have HBS := Lib.hid hbs
      rw [← hbs]
      clear hbs hlen0
      have jl0 : ((bs.length : Int) == 0) = false := beq_eq_false_iff_ne.2 (by omega)
      obtain ⟨v0, hv0⟩ := get_of_lt (l := bs.map vB) (k := 0) (by rw [List.length_map]; omega)
      obtain ⟨bb, rfl, _, _, _⟩ := own_at O10.out hv0
      have NW : Hid (∀ j u, (bs.map vB)[j]? = some u → (w10.alloc (.cells #[] 5)).cell? ⟨bb, j, none⟩ = some u) := fun j u hu => by
        obtain ⟨b', e, _, _, c⟩ := own_at (own_below O10.out ((Below.refl _ w10).alloc (Nat.le_refl _) (.cells #[] 5))) hu
        injection e with e
        injection e with e
        subst e
        exact c
      have Z10 : Hid (w10.heap.size ≤ (w10.alloc (.cells #[] 5)).heap.size) := ((Below.refl _ w10).alloc (Nat.le_refl _) (.cells #[] 5)).size
      obtain ⟨K, hK, hKn⟩ : ∃ K : Nat, (a0 : Int).tmod (bs.length : Int) = (K : Int) ∧ K < bs.length := ⟨a0 % bs.length, by rw [Int.tmod_eq_emod_of_nonneg (by omega)]; rfl, Nat.mod_lt _ (by omega)⟩
      go_wp2_with (first | (at_builtin; refine wpList_appM rfl (.tmp 104) (.tmp 105) _ rfl w10.heap.size 5 (.int .u8 0) 1 1 Try.underlying53 infoB rfl (by omega) (by omega) (.slice (some ⟨w10.heap.size, 0, none⟩) 0 0) 0 [] rfl (own_lit0 (Nat.le_refl _)) bs.length bb c2' (by omega) (bs.map vB) rfl (by rw [List.length_map, Nat.mul_one]) NW.out (one_bytes bs) (by omega) Z10.out ?_; intro g1 cap1 w11 hg1 hown1 hgrow1 hor1; rw [Nat.zero_add, List.nil_append] at hown1; have D1 : Below w10.heap.size w10 w11 := Below.grown ((Below.refl _ w10).alloc (Nat.le_refl _) (.cells #[] 5)) hgrow1 Z10.out (fun r hr => ((own_lit0 (w := w10) (e := 5) (size := 1) (Nat.le_refl _)).lt r hr).1); have HD1 := Lib.hid D1; have B11 := Lib.hid (bvia B10.out D1); have OD := Lib.hid hown1; have j0 : w11.cell? ⟨w.heap.size + 1, 0, none⟩ = some (.int .u16 (a0 : Int)) := (HJ.out.below B11.out HJ.out.lt).cell 0; have j1 : w11.cell? ⟨w.heap.size + 1, 1, none⟩ = some (.int .u16 (a1 : Int)) := (HJ.out.below B11.out HJ.out.lt).cell 1; have jq := (HJ.out.below B11.out HJ.out.lt).lt; clear hown1 hgrow1 hor1 D1 NW Z10 O10) | fail)
      obtain ⟨yk, hyk⟩ := get_of_lt hKn
      obtain ⟨cs1, hcs1⟩ := own_cellsB OD.out (g := g1) rfl
      have ck : w11.cell? ⟨g1, K, none⟩ = some (vB yk) := by
        obtain ⟨b', e, _, _, c⟩ := own_at OD.out (j := K) (u := vB yk) (by rw [List.getElem?_map, hyk]; rfl)
        injection e with e
        injection e with e
        subst e
        exact c
      have fk : w11.frozen? ⟨g1, K, none⟩ = false := by simp [World.frozen?, hcs1]
      have gk : g1 < w11.heap.size := by
        have := Array.getElem?_eq_some_iff.1 hcs1
        exact this.1
      have gne : ¬ g1 = w.heap.size + 1 := by
        have h1 := (OD.out.lt g1 rfl).1
        have h2 := (HJ.out.lt)
        have h3 := S10.out.1.size_le
        have h4 := B1.out.size
        omega
      have kK : (K : Int) < (bs.length : Int) := by omega
      clear hcs1 hK
      go_still_tail 13, (by kernel_rfl)
      change wpList _ _ _ _ _ w11.drew
      have ck' : w11.drew.cell? ⟨g1, K, none⟩ = some (vB yk) := ck
      have fk' : w11.drew.frozen? ⟨g1, K, none⟩ = false := fk
      have gk' : g1 < w11.drew.heap.size := gk
      rw [xorB]
      have hyne := xor_ne yk a1
      obtain ⟨y, hy⟩ : ∃ y, y = yk ^^^ UInt8.ofNat (1 + a1 % 255) := ⟨_, rfl⟩
      rw [← hy] at hyne
      rw [← hy]
      have hl9 : (ldP (bs.set K y)).1 ≠ 0 := by
        rw [HBS.out]
        refine ldP_odd p b z K y (by rw [← HBS.out]; exact hKn) (fun e => ?_)
        rw [← HBS.out, hyk] at e
        injection e with e
        exact hyne e.symm
      have ODr : Hid (w11.drew.ownsRow w10.heap.size 5 1 (.slice (some ⟨g1, 0, none⟩) bs.length cap1) bs.length (bs.map vB)) := OD.out
      have D12 := Lib.hid (Below.setCell (HD1.out.trans (show Below w10.heap.size w11 w11.drew from ⟨rfl, rfl, rfl, Nat.le_refl _, fun _ _ => rfl⟩)) (p := ⟨g1, K, none⟩) ((OD.out.lt g1 rfl).1) (vB y))
      have CL := Lib.hid (loadC (bs.set K y) (some ⟨g1, 0, none⟩) bs.length cap1 (w11.drew.setCell ⟨g1, K, none⟩ (vB y)) (rd_set ODr.out hKn) (by rw [List.length_set]) (own_caps OD.out).1 (by omega))
      have S12 := Lib.hid (S10.out.below D12.out)
      have B12 := Lib.hid (bvia B10.out D12.out)
      have jl9 : ((ldP (bs.set K y)).1 == 0) = false := beq_eq_false_iff_ne.2 hl9
      clear hy hyk hyne ck fk gk OD ODr D12 HD1 S10 B10 B11 j0 j1 jq gne kK
      go_wp2_with fail
      refine CL.out.mono ?_
      rintro e w13 ⟨hb13, ⟨_, rfl⟩ | ⟨h0, _⟩⟩
      case inr => exact absurd h0 hl9
      have S13 := Lib.hid (S12.out.below hb13)
      have B13 := Lib.hid (bvia B12.out hb13)
      clear hb13 S12 B12 CL hl9
      generalize (ldP (bs.set K y)).1 = er at *
      have S13' : Hid (SavP w13 w1.heap.size g p b (zRun z0 sl k) A' k c' (savL p b z0 sl k) vals) := by rw [← HZ.out]; exact S13
      go_wp2
      clear S13
      go_loopw [17] (fun i wr => ∃ (m : Nat), m ≤ k ∧ i = .int .i64 ((m : Int) - 1) ∧ Hid (SavP wr w1.heap.size g p b (zRun z0 sl m) A' k c' (savL p b z0 sl k) vals) ∧ Hid (Below w1.heap.size w1 wr)) (fun i _ => ((intOf i) + 1).toNat)
      case atStart => exact ⟨k, Nat.le_refl _, rfl, S13', B13⟩
      case round =>
        clear S13' B13
        obtain ⟨m, hm, hi, HS, HBW⟩ := hrel
        obtain ⟨wo, rfl⟩ : ∃ wo : World, wo = wr := ⟨_, rfl⟩
        cases m with
        | zero =>
          rw [show ((0 : Nat) : Int) - 1 = -1 from rfl] at hi
          subst hi
          obtain ⟨S, M, V, L, X, P, h1⟩ := HS.out.1
          have hF0 := HFI.out 0 (Nat.zero_le _)
          have CB := Lib.hid (backN w1.heap.size g p b _ S M V L X P wo h1 (by omega) hF0.b.steps)
          clear h1 hF0 HS
          go_wp2_with fail
          refine CB.out.mono ?_
          rintro e w14 ⟨rfl, hb14⟩
          have B14 := Lib.hid (bvia HBW.out hb14)
          clear hb14 HBW CB
          go_wp2_with fail
          refine (awakeP _).mono ?_
          rintro e w15 ⟨rfl, hb15⟩
          go_wp2
          go_ret
          exact ⟨rfl, bvia B1.out (bvia B14.out hb15)⟩
        | succ j =>
          have hij : ((j + 1 : Nat) : Int) - 1 = (j : Int) := by omega
          rw [hij] at hi
          subst hi
          have jj : (0 : Int) ≤ (j : Int) := by omega
          obtain ⟨x, hx⟩ := get_of_lt (l := sl) (k := j) (by rw [L2.out]; omega)
          have hE := HGO.out j x hx
          have hFj := HFI.out j (by rw [L2.out]; omega)
          have hCr := HCR.out (j + 1) (by rw [L2.out]; omega)
          have hzs := zRun_succ z0 hx
          obtain ⟨h1, h2, h3, h4, h5⟩ := HS.out
          obtain ⟨Aj, cj, hvj, hoj⟩ := h5 j _ (savL_get p b z0 sl hm)
          obtain ⟨gs, rfl, hgs, _, cs⟩ := own_at h2 hvj
          have CBk : Hid (∀ W, SavP W w1.heap.size g p b (zRun z0 sl (j + 1)) (some ⟨gs, 0, none⟩) k c' (savL p b z0 sl k) vals → Calls Try.prog 23 #[.pointer (some ⟨g, 0, none⟩)] W fun e w' => e = .returned (.int .i64 0) ∧ SavP w' w1.heap.size g p b (zRun z0 sl j) (some ⟨gs, 0, none⟩) k c' (savL p b z0 sl k) vals ∧ Below w1.heap.size W w') := by
            intro W q
            rw [hzs] at q hCr
            exact q.back hFj (by omega) hp hCr hE
          have CVj := Lib.hid (fun W (q : OneP W w1.heap.size g p b (zRun z0 sl j)) => q.save hFj.b (by omega) (by omega) (fun x hx => (hFj.st x hx).2.2.2.2))
          have VJ := Lib.hid hvj
          have hjk : j < k := by omega
          have jjk : (j : Int) < (k : Int) := by omega
          have SD := Lib.hid (HS.out.below (show Below wo.heap.size wo wo.drew from ⟨rfl, rfl, rfl, Nat.le_refl _, fun _ _ => rfl⟩))
          have BD := Lib.hid (bvia HBW.out (show Below wo.heap.size wo wo.drew from ⟨rfl, rfl, rfl, Nat.le_refl _, fun _ _ => rfl⟩))
          clear h1 h2 h3 h4 h5 hvj hoj hgs hx hE hFj hCr hzs HS HBW
          go_wp2
          go_region_held3 (fun W => W.cell? ⟨gs, j, none⟩ = some (.slice Aj (saveB p b (zRun z0 sl j)).length cj)) (first | assumption | go_keep) (first
            | (go_simp; go_at_call 23; refine (CBk.out _ SD.out).mono ?_; rintro e w14 ⟨rfl, h14, hb14⟩; have B14 := BD.out.trans hb14; have e1 : w14.cell? ⟨gs, j, none⟩ = some (.slice Aj (saveB p b (zRun z0 sl j)).length cj) := (by obtain ⟨b', e, _, _, c⟩ := own_at h14.2.1 VJ.out; injection e with e; injection e with e; subst e; exact c))
            | (go_simp; go_at_call 20; refine (CVj.out _ h14.1).mono ?_; rintro e w15 ⟨A15, n15, c15, rfl, o15, l15, hb15⟩; subst l15; have h15 := h14.below hb15; have B15 := bvia B14 hb15; have e2 : w15.cell? ⟨gs, j, none⟩ = some (.slice Aj (saveB p b (zRun z0 sl j)).length cj) := (by obtain ⟨b', e, _, _, c⟩ := own_at h15.2.1 VJ.out; injection e with e; injection e with e; subst e; exact c); obtain ⟨Aq, cq, hvq, hoq⟩ := h15.2.2.2.2 j _ (savL_get p b z0 sl hjk); have hvq2 := hvq.symm.trans VJ.out; injection hvq2 with hvq2; injection hvq2 with q1 q2 q3; subst q1 q3; have rA := own_rdB o15; have rB := own_rdB hoq)
            | (go_simp; go_at_call 27; refine (sameBytesC _ _ _ _ _ (saveB p b (zRun z0 sl j)) _ rA rB rfl).mono ?_; rintro e w16 ⟨rfl, rfl⟩)
            | fail)
          have S15 := Lib.hid h15
          have B15' := Lib.hid B15
          go_wp2
          refine ⟨⟨j, by omega, rfl, S15, B15'⟩, ?_⟩
          first | (simp [intOf]; done) | (simp [intOf]; omega)
end Go.Proofs.Ytaenafcecfdffaa
