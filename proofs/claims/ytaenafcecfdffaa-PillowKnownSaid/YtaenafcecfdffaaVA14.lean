/-
  A range over a function whose body writes: the caller says what holds between two rounds (I), what a round may change (K), and is told of each value's memory (Ok).
-/
import Derived.Test.YtaenafcecfdffaaVA2
import Derived.Test.YtaenafcecfdffaaVA9
import Derived.Lib.AppendStr
import Derived.Laws.BytesArg
import Derived.Laws.BitsAllLaws
import Derived.RangeFuncCalls
import Derived.OrdersIn
import Derived.Deep.RegionHeld3
namespace Go.Proofs.Ytaenafcecfdffaa
open Go.RowKit
theorem range_lawK {P : Program} {n : Nat} {g : Operand} {ps : Array Tmp} {assign body : Code} {Q : Exit → Act → World → Prop} {a : Act} {w : World} {gf : Nat} {lb : Array Value}
    (hg : a.eval g = .func (.func gf) #[] lb) (eg : ∀ args w, (callFunc gf args).run P w = .ok (.enter gf args) w)
    {α : Type} (encs : α → Array Value) (hps : ∀ x, (encs x).size = ps.size)
    (I : Nat → List α → World → Prop) (S : List α → Prop) (Ok : Nat → List α → α → World → Prop) (K : Nat → Nat → World → World → Prop) (hKt : ∀ l hi A B C, K l hi A B → K l hi B C → K l hi A C) (hKp : ∀ l hi (A : World) o o', A.heap[l]? = some o → o.isCells = false → K l hi A (A.putObj l o'))
    (hI : ∀ hi, OwnFrom w.heap.size (I hi)) (h0 : I w.heap.size [] w)
    (hiter : ∀ (l d : Nat) (r0 : Loop) (W : World), w.heap.size ≤ d → d < l → KeepBut l w W → Mid (I w.heap.size) l d r0 [] W →
      (∀ hi pre x W1, Ok hi pre x W1 → hi ≤ W1.heap.size → Mid (I hi) l d r0 pre W1 → YieldAt Fence.wide n P l (encs x) W1 fun e W' => e = .returned (.bool true) ∧ Mid (I W'.heap.size) l d r0 (pre ++ [x]) W' ∧ K l hi W1 W') →
      CallsIn Fence.wide n P gf (#[.func (.yield l) #[] #[]] ++ lb) W fun e W' => (∃ v, e = .returned v) ∧ (∃ hi xs, S xs ∧ Mid (I hi) l d r0 xs W'))
    (hround : ∀ (hi l : Nat) (pre : List α) (x : α) (W : World) (o : Obj), Ok hi pre x W → w.heap.size < l → hi ≤ W.heap.size → I hi pre W → W.heap[l]? = some o → o.isCells = false →
      assign.wpIn (Fence.wide.inRound l) n P (Exit.then (fun a₁ W1 => KeepsOthers W W1 ∧ K l hi W W1 ∧ ∀ o', o'.isCells = false → body.wpIn (Fence.wide.inRound l) n P (fun e _ W3 => match e with
          | .normal => KeepsOthers (W1.putObj l o') W3 ∧ K l hi (W1.putObj l o') W3 ∧ I W3.heap.size (pre ++ [x]) W3
          | _ => False) a₁ (W1.putObj l o')) (fun _ _ _ => False)) { tmps := (ps.zip (encs x)).foldl (fun t (p, v) => t.setIfInBounds p v) a.tmps, defers := [] } W)
    (hdone : ∀ (D hi : Nat) (xs : List α) (W : World), w.heap.size ≤ D → S xs → I hi xs W → W.heap[D]? = some (.deferred (some [])) → Q .normal { a with defers := { target := .collected D, args := #[] } :: a.defers } W) :
    (Code.rangeFunc g ps assign body).wpIn Fence.wide n P Q a w := by
  refine wpIn_rangeFunc fun fn hfn => ?_
  obtain ⟨rc, hrc⟩ : ∃ rc : LoopState → Option Code → Loop, rc = fun st pe => { state := st, pending := pe, fn := fn, tmps := a.tmps, params := ps, assign := assign, body := body, defers := w.heap.size } := ⟨_, rfl⟩
  have hent := run_enterLoop_outer (P := P) (w := w) fn a.tmps ps assign body
  have hb1 : KeepBut (w.heap.size + 1) w ((w.alloc (.deferred (some []))).alloc (.loop (rc .ready none))) :=
    ⟨by simp; omega, fun r hr _ => (Below.heap_alloc _ _ r (by simp; omega)).trans (Below.heap_alloc w _ r hr)⟩
  have hL1 : ((w.alloc (.deferred (some []))).alloc (.loop (rc .ready none))).heap[w.heap.size + 1]? = some (.loop (rc .ready none)) := by
    have := World.alloc_heap_new (w.alloc (.deferred (some []))) (.loop (rc .ready none)); rwa [World.size_alloc] at this
  have hD1 : ((w.alloc (.deferred (some []))).alloc (.loop (rc .ready none))).heap[w.heap.size]? = some (.deferred (some [])) :=
    (Below.heap_alloc _ _ _ (by simp)).trans (World.alloc_heap_new w _)
  have hI1 : I w.heap.size [] ((w.alloc (.deferred (some []))).alloc (.loop (rc .ready none))) := (hI _).alloc _ ((hI _).alloc _ h0)
  refine ⟨w.heap.size + 1, [{ target := .collected w.heap.size, args := #[] }], ((w.alloc (.deferred (some []))).alloc (.loop (rc .ready none))), { target := .fn (.func gf) lb, args := #[.func (.yield (w.heap.size + 1)) #[] #[]] }, _, gf,
    #[.func (.yield (w.heap.size + 1)) #[] #[]] ++ lb, _, by rw [hrc]; exact hent, by simp only [resolve, hg]; simp [go_sem]; rfl, fun _ _ => trivial, by simp [invoke, go_sem, eg]; rfl, fun h => by simp [Fence.wide] at h, ?_⟩
  subst hrc
  refine callsIn_wide.2 (callsIn_wide.1 ((hiter (w.heap.size + 1) w.heap.size _ _ (Nat.le_refl _) (Nat.lt_succ_self _) hb1 ⟨hI1, hL1, hD1⟩ ?_).mono ?_))
  · rintro top pre x W hok htop ⟨hi, hl, hk⟩
    refine ⟨fn, _, assign, body, run_yield (P := P) (args := encs x) hl (hps x), roundIn_of_wpIn hfn ?_⟩
    refine wpIn_mono (hround top (w.heap.size + 1) pre x W _ hok (Nat.lt_succ_self _) htop hi hl rfl) ?_
    rintro e a1 W1 hp
    cases e with
    | normal =>
      obtain ⟨hko, hkb, hbd⟩ := hp
      have hl1 := hko.same _ _ hl rfl
      have hk1 := hko.same _ _ hk rfl
      have hlt := (Array.getElem?_eq_some_iff.1 hl1).1
      refine ⟨_, run_beginRound hl1 rfl, wpIn_mono (hbd _ rfl) ?_⟩
      rintro e a3 W3 hq
      cases e with
      | normal =>
        obtain ⟨hk3, hb3, hi3⟩ := hq
        have hl3 := hk3.same _ _ (World.putObj_heap_same hlt) rfl
        have hd3 := hk3.same _ _ ((World.putObj_heap_other (by omega)).trans hk1) rfl
        refine ⟨_, _, run_endRound none hl3, ⟨rfl, ⟨?_, World.putObj_heap_same (Array.getElem?_eq_some_iff.1 hl3).1, (World.putObj_heap_other (by omega)).trans hd3⟩, ?_⟩⟩
        · have hz : ∀ o, (W3.putObj (w.heap.size + 1) o).heap.size = W3.heap.size := fun o => by simp [World.putObj]
          rw [hz]
          exact (hI _).putObj _ hi3 (by omega) hl3 rfl
        · exact hKt _ _ _ _ _ (hKt _ _ _ _ _ (hKt _ _ _ _ _ hkb (hKp _ _ _ _ _ hl1 rfl)) hb3) (hKp _ _ _ _ _ hl3 rfl)
      | ret => exact hq.elim
      | exit id => exact hq.elim
      | goto t => exact hq.elim
      | panic ch => exact hq.elim
      | outgrown => exact hq.elim
    | ret => exact hp.elim
    | exit id => exact hp.elim
    | goto t => exact hp.elim
    | panic ch => exact hp.elim
    | outgrown => exact hp.elim
  · rintro e W2 ⟨⟨v, rfl⟩, ⟨hi, xs, hS, hm⟩⟩
    exact ⟨none, _, run_endLoop (P := P) hm.rec_ (by simp), hdone _ hi xs _ (Nat.le_refl _) hS ((hI _).putObj _ hm.inv (by omega) hm.rec_ rfl) ((World.putObj_heap_other (by omega)).trans hm.dfr)⟩
end Go.Proofs.Ytaenafcecfdffaa
/-
  Words of bytes: rows of bytes, strings made of them, append of several elements at once.
-/
namespace Go.Proofs.Ytaenafcecfdffaa
open Go.RowKit
abbrev vB (b : UInt8) : Value := .int .u8 (b.toNat : Int)
abbrev RdU8 (w : World) (B : Nat) (A : Option Addr) (xs : List UInt8) : Prop := Rd1 vB w B A xs
/-- the byte of a number -/
def bI (x : Int) : UInt8 := UInt8.ofNat (x % 256).toNat
theorem wrap_bI (x : Int) : IntKind.u8.wrap x = ((bI x).toNat : Int) := by
  rw [IntKind.wrap_u8']
  unfold bI
  rw [UInt8.toNat_ofNat']
  omega
theorem strCells_vB (s : ByteArray) : Lib.strCells s = s.data.toList.map vB := rfl
theorem strOf_bytes (xs : List UInt8) : strOfNums (xs.map (fun b => (b.toNat : Int))) = ⟨xs.toArray⟩ := by
  unfold strOfNums
  rw [List.map_map]
  congr 1
  congr 1
  conv => rhs; rw [← List.map_id xs]
  apply List.map_congr_left
  intro b _
  simp
theorem str_conv {w : World} {A : Option Addr} {n c : Nat} {xs : List UInt8} (h : RdU8 w w.heap.size A xs) (hl : xs.length = n) :
    (convert 53 9 (.slice A n c)).run Try.prog w = .ok (.string ⟨xs.toArray⟩) w := by
  cases xs with
  | nil =>
    obtain rfl : 0 = n := hl
    cases A with
    | none => exact run_convert_bytes_nil (P := Try.prog) w 53 5 Try.underlying53 Try.underlying5 0 c 9 Try.underlying9
    | some a =>
      obtain ⟨b, o, s⟩ := a
      have h := run_bytesToString (P := Try.prog) w ⟨b, o, s⟩ 0 c [] (by kernel_rfl)
      rw [run_convert_bytes_string w 53 9 5 _ 0 c Try.underlying53 Try.underlying5 Try.underlying9, h]
      rfl
  | cons x l =>
    obtain ⟨b, o, rfl, _, _⟩ := h 0 x rfl
    have := run_convert_bytes_arg (P := Try.prog) w 53 5 Try.underlying53 Try.underlying5 b o n c ((x :: l).map (fun b => (b.toNat : Int))) (by simpa using hl) (fun i hi => by
      obtain ⟨y, hy⟩ := get_of_lt (l := x :: l) (k := i) (by omega)
      obtain ⟨b', o', e, _, hc⟩ := h i y hy
      injection e with e
      injection e with e1 e2
      subst e1 e2
      rw [hc, List.getD_eq_getElem?_getD, List.getElem?_map, hy]; rfl) 9 Try.underlying9
    rw [this, strOf_bytes]
/-- append of several elements that lie in a row of their own -/
theorem wpList_appM {P : Program} {w : World} {ops : Array Oper} {rest : List Oper} {o : Oper} {a : Act} {Q : Exit → Act → World → Prop} (hgd : o.guard = none) (s x : Operand) (t : TypeId)
    (ho : o.op = .call { callee := .builtin .append, args := #[s, x], argTypes := #[t, t] })
    (base : Nat) (e : TypeId) (z : Value) (size bytes : Nat) (ht : P.underlying t = some (.slice e)) (hinf : (P.info? e).map (fun i => (i.zero, i.size, i.bytes)) = some (some z, size, bytes))
    (hzs : z.cells.size = size) (hsz : 0 < size) (hby : bytes ≤ 100)
    (v : Value) (n : Nat) (xs : List Value) (hs : a.eval s = v) (hown : w.ownsRow base e size v n xs)
    (m b c : Nat) (hm : 0 < m) (news : List Value) (hx : a.eval x = .slice (some ⟨b, 0, none⟩) m c) (hl : news.length = m * size) (hnews : ∀ j u, news[j]? = some u → w.cell? ⟨b, j, none⟩ = some u) (h1 : ∀ u ∈ news, u.oneCell' = true)
    (hn : n + m ≤ 1000000000) (hbase : base ≤ w.heap.size)
    (h : ∀ g cap w', base ≤ g → w'.ownsRow base e size (.slice (some ⟨g, 0, none⟩) (n + m) cap) (n + m) (xs ++ news) → w.grownBy w' v.ownBlock → (some g = v.ownBlock ∨ g = w.heap.size) →
      wpList P ops Q rest (a.put o.dst (.slice (some ⟨g, 0, none⟩) (n + m) cap)) w') : wpList P ops Q (o :: rest) a w := by
  obtain ⟨i, hi, hz, hsize, hb⟩ := info_parts hinf
  refine wpList_plain hgd fun K hK => ?_
  have hmul : (n + m) * bytes ≤ 140737488355328 := by
    have : (n + m) * bytes ≤ 1000000001 * 100 := Nat.mul_le_mul (by omega) hby
    omega
  obtain ⟨v', w', hrun, h2, h3, h4, h5⟩ := run_append_own_at (P := P) w base t o.type e i z size bytes ht hi hz hsize hb hzs hsz v n xs hown ⟨b, 0, none⟩ m c news hl (fun j u hu => by
    have := hnews j u hu
    have hadd : (⟨b, 0, none⟩ : Addr).add j = ⟨b, j, none⟩ := by unfold Addr.add; split <;> simp_all
    rw [hadd]; exact this) h1 (by simp only [maxLen]; omega) hmul hbase
  have hnn : v' ≠ .slice none 0 0 := fun e => by have := h4.1 e; omega
  rcases h2.2 with ⟨rfl, _⟩ | ⟨g, cap, cur, rfl, hg, _⟩
  · exact absurd rfl hnn
  · unfold Oper.wp execOp
    simp only [ho, resolve, invoke, builtin, Sem.run_bind, Sem.run_pure, Result.andThen_ok, List.map_toArray, List.map_cons, List.map_nil, hs, hx, hrun]
    refine hK _ _ (h g cap w' hg h2 h3 ?_)
    rcases h5 with h5 | h5
    · left; rw [← h5]; rfl
    · right; simpa [Value.ownBlock] using h5
theorem news_lit (w : World) (xs : List Value) (t : TypeId) : ∀ j u, xs[j]? = some u → (w.alloc (.cells xs.toArray t)).cell? ⟨w.heap.size, j, none⟩ = some u := fun j _ hu =>
  ((Has.new (w := w) (t := t) (cs := xs) rfl).cell j).trans hu
theorem news_at (w : World) (xs : List Value) (t : TypeId) {b : Nat} (hb : b = w.heap.size) : ∀ j u, xs[j]? = some u → (w.alloc (.cells xs.toArray t)).cell? ⟨b, j, none⟩ = some u := by
  subst hb; exact news_lit w xs t
theorem infoB : (Try.prog.info? 5).map (fun i => (i.zero, i.size, i.bytes)) = some (some (.int .u8 0), 1, 1) := by kernel_rfl
/-- append of a string's bytes -/
theorem wpList_appS {w : World} {ops : Array Oper} {rest : List Oper} {o : Oper} {a : Act} {Q : Exit → Act → World → Prop} (hgd : o.guard = none) (s x : Operand)
    (ho : o.op = .call { callee := .builtin .append, args := #[s, x], argTypes := #[53, 9] })
    (base : Nat) (v : Value) (n : Nat) (xs : List UInt8) (hs : a.eval s = v) (hown : w.ownsRow base 5 1 v n (xs.map vB)) (st : ByteArray) (hx : a.eval x = .string st)
    (hn : n + st.size ≤ 1000000000) (hbase : base ≤ w.heap.size)
    (h : ∀ A' c' w', w'.ownsRow base 5 1 (.slice A' (n + st.size) c') (n + st.size) ((xs ++ st.data.toList).map vB) → w.grownBy w' v.ownBlock → wpList Try.prog ops Q rest (a.put o.dst (.slice A' (n + st.size) c')) w') :
    wpList Try.prog ops Q (o :: rest) a w := by
  obtain ⟨i, hi, hz, hsize, hb⟩ := info_parts infoB
  refine Lib.wpList_append_own_string (P := Try.prog) w hgd s x 53 9 ho base 5 i Try.underlying53 Try.underlying9 hi hz hsize hb v n (xs.map vB) hs hown st hx (by simp only [maxLen]; omega) (by omega) hbase (fun v' w' h1 h2 _ => ?_)
  obtain ⟨A', c', rfl⟩ := own_form h1
  exact h A' c' w' (by rw [List.map_append]; exact h1) h2
theorem one_bytes (xs : List UInt8) : ∀ u ∈ xs.map vB, u.oneCell' = true := fun u hu => by
  simp at hu; obtain ⟨b, _, rfl⟩ := hu; rfl
theorem own_rdB {w : World} {base n c : Nat} {A : Option Addr} {xs : List UInt8} (h : w.ownsRow base 5 1 (.slice A n c) n (xs.map vB)) : RdU8 w w.heap.size A xs := own_rd1 h
end Go.Proofs.Ytaenafcecfdffaa
/-
  Contracts of chapter 16: the pillow's sum and put.
-/
namespace Go.Proofs.Ytaenafcecfdffaa
open Go.RowKit
def sumStep (h : Int) (x : UInt8) : Int := bits BinOp.xor IntKind.u32 h ((x.toNat : Int) % 4294967296) * 16777619 % 4294967296
def sumB (xs : List UInt8) : Int := xs.foldl sumStep 2166136261
theorem sumB_succ {xs : List UInt8} {k : Nat} {x : UInt8} (h : xs[k]? = some x) : sumB (xs.take (k + 1)) = sumStep (sumB (xs.take k)) x := by
  unfold sumB
  rw [List.take_add_one, h]
  show (xs.take k ++ [x]).foldl _ _ = _
  rw [List.foldl_append]; rfl
set_option maxRecDepth 100000 in
theorem sumC (A : Option Addr) (n c : Nat) (xs : List UInt8) (w : World) (hr : RdU8 w w.heap.size A xs) (hl : xs.length = n) (hn : n ≤ 1000000000) :
    Calls Try.prog 48 #[.slice A n c] w fun e w' => e = .returned (.int .u32 (sumB xs)) ∧ w = w' := by
  have HR := Lib.hid hr
  have HL := Lib.hid hl
  clear hr hl
  go_enter Try.func48, Try.ntmps48
  go_wp2
  go_loopw [3, 8] (fun h i wr => ∃ k : Nat, k ≤ n ∧ i = .int .i64 (k : Int) ∧ h = .int .u32 (sumB (xs.take k)) ∧ w = wr) (fun _ i _ => n - (intOf i).toNat)
  case atStart => exact ⟨0, Nat.zero_le _, rfl, rfl, rfl⟩
  case round =>
    obtain ⟨k, hk, rfl, rfl, rfl⟩ := hrel
    by_cases hlt : k < n
    · have jk : (k : Int) < (n : Int) := by omega
      obtain ⟨x, hx⟩ := get_of_lt (l := xs) (k := k) (by rw [HL.out]; exact hlt)
      obtain ⟨b, o, rfl, hb, c0⟩ := HR.out k x hx
      have HS := Lib.hid (sumB_succ hx)
      clear hx
      go_wp2
      go_roundw
      case rel => exact ⟨k + 1, by omega, by go_num, by rw [HS.out]; rfl, trivial⟩
      case measure => first | (simp [intOf]; done) | (simp [intOf]; omega)
    · obtain rfl : k = n := by omega
      have jk : ¬ (k : Int) < (k : Int) := by omega
      go_wp2
      go_ret
      exact ⟨by rw [List.take_of_length_le (by rw [HL.out]; exact Nat.le_refl _)]; rfl, rfl⟩
theorem keep_grown {S : Nat → Prop} {w wo w5 : World} {o : Obj} {row : Option Nat} (h : KeepB S w wo) (g : (wo.alloc o).grownBy w5 row) (hr : ∀ r, row = some r → S r ∨ w.heap.size ≤ r) : KeepB S w w5 := by
  have ha : KeepB S w (wo.alloc o) := h.trans (KeepB.of_below ((Below.refl _ wo).alloc (Nat.le_refl _) o))
  refine ⟨g.os.trans ha.os, g.tape.trans ha.tape, g.output.trans ha.output, Nat.le_trans ha.size g.size, fun r hr' hn => ?_⟩
  refine (g.block r (Nat.lt_of_lt_of_le hr' ha.size) (fun e => ?_)).trans (ha.block r hr' hn)
  rcases hr r e.symm with e2 | e2
  · exact hn e2
  · omega
/-- a number in k bytes, the highest one first -/
def putL (m : Int) : Nat → List UInt8
  | 0 => []
  | k + 1 => bI (m / 256 ^ k) :: putL m k
theorem putL_len (m : Int) : ∀ k, (putL m k).length = k
  | 0 => rfl
  | k + 1 => by rw [putL, List.length_cons, putL_len m k]
set_option maxRecDepth 100000 in
set_option maxHeartbeats 4000000 in
theorem put2C (B : Nat) (v : Value) (xs : List UInt8) (n : Nat) (m : Int) (w : World) (hO : w.ownsRow B 5 1 v n (xs.map vB)) (hB : B ≤ w.heap.size) (hn : n ≤ 100000000) :
    Calls Try.prog 45 #[v, .int .u32 m, .int .i64 2] w fun e w' => ∃ A' c', e = .returned (.slice A' (n + 2) c') ∧ w'.ownsRow B 5 1 (.slice A' (n + 2) c') (n + 2) ((xs ++ putL m 2).map vB) ∧ Below B w w' ∧ KeepB (fun r => v.ownBlock = some r) w w' := by
  obtain ⟨A, c, rfl⟩ := own_form hO
  have HO := Lib.hid hO
  have HBB := Lib.hid (fun w' (k : KeepB (fun r => (Value.slice A n c).ownBlock = some r) w w') => KeepB.below k (fun r hr => (hO.lt r hr).1) hB)
  clear hO
  go_enter Try.func45, Try.ntmps45
  go_wp2
  go_loopw [0, 7] (fun v i wr => ∃ (k : Nat) (A' : Option Addr) (c' : Nat), k ≤ 2 ∧ i = .int .i64 (([1, 0, -1] : List Int).getD k 0) ∧ v = .slice A' (n + k) c' ∧ Hid (wr.ownsRow B 5 1 v (n + k) ((xs ++ (putL m 2).take k).map vB)) ∧ Hid (KeepB (fun r => (Value.slice A n c).ownBlock = some r) w wr ∧ ∀ r, v.ownBlock = some r → (Value.slice A n c).ownBlock = some r ∨ w.heap.size ≤ r)) (fun _ i _ => ((intOf i) + 1).toNat)
  case atStart =>
    refine ⟨0, A, c, by omega, rfl, rfl, ?_, Lib.hid ⟨KeepB.refl _ _, fun r hr => .inl hr⟩⟩
    show World.ownsRow _ _ _ _ _ _ _
    rw [List.take_zero, List.append_nil]
    exact HO.out
  case round =>
    clear HO
    obtain ⟨k, A', c', hk, hi, rfl, HO, HB⟩ := hrel
    obtain ⟨wo, rfl⟩ : ∃ wo : World, wo = wr := ⟨_, rfl⟩
    have hz := HB.out.1.size
    have hzo : B ≤ wo.heap.size := Nat.le_trans hB hz
    rcases (by omega : k = 0 ∨ k = 1 ∨ k = 2) with rfl | rfl | rfl
    · obtain rfl := hi.trans (show _ = Value.int .i64 1 from rfl)
      have hb : ∀ x : Int, ((x % 256 : Int)) = ((bI x).toNat : Int) := fun x => by rw [← wrap_bI, IntKind.wrap_u8']
      have HBY : Hid (bI (m / 256 ^ 1) = bI (m / 256)) := by show _ = _; first | rfl | (congr 1; omega)
      go_wp2_with (at_builtin; refine wpList_app rfl (.tmp 14) (.tmp 20) _ rfl B 5 (.int .u8 0) 1 1 Try.underlying53 infoB rfl (by omega) (by omega) (.slice A' (n + 0) c') _ _ rfl (HO.out.alloc _) wo.heap.size [vB (bI (m / 256))] rfl rfl (by first | exact news_new _ _ _ | (rw [← hb]; exact news_new _ _ _)) (one_bytes [bI (m / 256)]) (by omega) (by simp; omega) ?_; intro g1 cap1 w5 hg1 hown1 hgrow1 hor1)
      go_roundw
      case rel =>
        refine ⟨1, _, cap1, by omega, rfl, rfl, ?_, ?_⟩
        · show World.ownsRow _ _ _ _ _ _ _
          have e9 : (putL m 2).take 1 = (putL m 2).take 0 ++ [bI (m / 256)] := by rw [← HBY.out]; rfl
          rw [e9, ← List.append_assoc, List.map_append]
          exact hown1
        · refine ⟨keep_grown HB.out.1 hgrow1 HB.out.2, fun r hr => ?_⟩
          obtain rfl : g1 = r := by injection hr
          rcases hor1 with e | e
          · exact HB.out.2 g1 e.symm
          · simp at e; exact .inr (by omega)
      case measure => first | (simp [intOf]; done) | (simp [intOf]; omega)
    · obtain rfl := hi.trans (show _ = Value.int .i64 0 from rfl)
      have hb : ∀ x : Int, ((x % 256 : Int)) = ((bI x).toNat : Int) := fun x => by rw [← wrap_bI, IntKind.wrap_u8']
      have HBY : Hid (bI (m / 256 ^ 0) = bI m) := by show _ = _; first | rfl | (congr 1; omega)
      go_wp2_with (at_builtin; refine wpList_app rfl (.tmp 14) (.tmp 20) _ rfl B 5 (.int .u8 0) 1 1 Try.underlying53 infoB rfl (by omega) (by omega) (.slice A' (n + 1) c') _ _ rfl (HO.out.alloc _) wo.heap.size [vB (bI m)] rfl rfl (by first | exact news_new _ _ _ | (rw [← hb]; exact news_new _ _ _)) (one_bytes [bI m]) (by omega) (by simp; omega) ?_; intro g1 cap1 w5 hg1 hown1 hgrow1 hor1)
      go_roundw
      case rel =>
        refine ⟨2, _, cap1, by omega, rfl, rfl, ?_, ?_⟩
        · show World.ownsRow _ _ _ _ _ _ _
          have e9 : (putL m 2).take 2 = (putL m 2).take 1 ++ [bI m] := by rw [← HBY.out]; rfl
          rw [e9, ← List.append_assoc, List.map_append]
          exact hown1
        · refine ⟨keep_grown HB.out.1 hgrow1 HB.out.2, fun r hr => ?_⟩
          obtain rfl : g1 = r := by injection hr
          rcases hor1 with e | e
          · exact HB.out.2 g1 e.symm
          · simp at e; exact .inr (by omega)
      case measure => first | (simp [intOf]; done) | (simp [intOf]; omega)
    · obtain rfl := hi.trans (show _ = Value.int .i64 (-1) from rfl)
      go_wp2
      go_ret
      refine ⟨A', c', rfl, ?_, HBB.out _ HB.out.1, HB.out.1⟩
      have h := HO.out
      rw [List.take_of_length_le (by rw [putL_len]; exact Nat.le_refl _)] at h
      exact h
set_option maxRecDepth 100000 in
set_option maxHeartbeats 4000000 in
theorem put4C (B : Nat) (v : Value) (xs : List UInt8) (n : Nat) (m : Int) (w : World) (hO : w.ownsRow B 5 1 v n (xs.map vB)) (hB : B ≤ w.heap.size) (hm : 0 ≤ m ∧ m < 4294967296) (hn : n ≤ 100000000) :
    Calls Try.prog 45 #[v, .int .u32 m, .int .i64 4] w fun e w' => ∃ A' c', e = .returned (.slice A' (n + 4) c') ∧ w'.ownsRow B 5 1 (.slice A' (n + 4) c') (n + 4) ((xs ++ putL m 4).map vB) ∧ Below B w w' ∧ KeepB (fun r => v.ownBlock = some r) w w' := by
  obtain ⟨A, c, rfl⟩ := own_form hO
  have HO := Lib.hid hO
  have HBB := Lib.hid (fun w' (k : KeepB (fun r => (Value.slice A n c).ownBlock = some r) w w') => KeepB.below k (fun r hr => (hO.lt r hr).1) hB)
  clear hO
  go_enter Try.func45, Try.ntmps45
  go_wp2
  go_loopw [0, 7] (fun v i wr => ∃ (k : Nat) (A' : Option Addr) (c' : Nat), k ≤ 4 ∧ i = .int .i64 (([3, 2, 1, 0, -1] : List Int).getD k 0) ∧ v = .slice A' (n + k) c' ∧ Hid (wr.ownsRow B 5 1 v (n + k) ((xs ++ (putL m 4).take k).map vB)) ∧ Hid (KeepB (fun r => (Value.slice A n c).ownBlock = some r) w wr ∧ ∀ r, v.ownBlock = some r → (Value.slice A n c).ownBlock = some r ∨ w.heap.size ≤ r)) (fun _ i _ => ((intOf i) + 1).toNat)
  case atStart =>
    refine ⟨0, A, c, by omega, rfl, rfl, ?_, Lib.hid ⟨KeepB.refl _ _, fun r hr => .inl hr⟩⟩
    show World.ownsRow _ _ _ _ _ _ _
    rw [List.take_zero, List.append_nil]
    exact HO.out
  case round =>
    clear HO
    obtain ⟨k, A', c', hk, hi, rfl, HO, HB⟩ := hrel
    obtain ⟨wo, rfl⟩ : ∃ wo : World, wo = wr := ⟨_, rfl⟩
    have hz := HB.out.1.size
    have hzo : B ≤ wo.heap.size := Nat.le_trans hB hz
    rcases (by omega : k = 0 ∨ k = 1 ∨ k = 2 ∨ k = 3 ∨ k = 4) with rfl | rfl | rfl | rfl | rfl
    · obtain rfl := hi.trans (show _ = Value.int .i64 3 from rfl)
      have hb : ∀ x : Int, ((x % 256 : Int)) = ((bI x).toNat : Int) := fun x => by rw [← wrap_bI, IntKind.wrap_u8']
      have HBY : Hid (Value.int .u8 (m / 16777216) = vB (bI (m / 256 ^ 3))) := by
        show Value.int _ _ = Value.int _ _
        rw [← hb]
        congr 1
        omega
      go_wp2_with (at_builtin; refine wpList_app rfl (.tmp 14) (.tmp 20) _ rfl B 5 (.int .u8 0) 1 1 Try.underlying53 infoB rfl (by omega) (by omega) (.slice A' (n + 0) c') _ _ rfl (HO.out.alloc _) wo.heap.size [.int .u8 (m / 16777216)] rfl rfl (news_new _ _ _) (one_int _ _) (by omega) (by simp; omega) ?_; intro g1 cap1 w5 hg1 hown1 hgrow1 hor1)
      go_roundw
      case rel =>
        refine ⟨1, _, cap1, by omega, rfl, rfl, ?_, ?_⟩
        · show World.ownsRow _ _ _ _ _ _ _
          rw [HBY.out] at hown1
          have e9 : (putL m 4).take 1 = (putL m 4).take 0 ++ [bI (m / 256 ^ 3)] := rfl
          rw [e9, ← List.append_assoc, List.map_append]
          exact hown1
        · refine ⟨keep_grown HB.out.1 hgrow1 HB.out.2, fun r hr => ?_⟩
          obtain rfl : g1 = r := by injection hr
          rcases hor1 with e | e
          · exact HB.out.2 g1 e.symm
          · simp at e; exact .inr (by omega)
      case measure => first | (simp [intOf]; done) | (simp [intOf]; omega)
    · obtain rfl := hi.trans (show _ = Value.int .i64 2 from rfl)
      have hb : ∀ x : Int, ((x % 256 : Int)) = ((bI x).toNat : Int) := fun x => by rw [← wrap_bI, IntKind.wrap_u8']
      have HBY : Hid (bI (m / 256 ^ 2) = bI (m / 65536)) := by show _ = _; first | rfl | (congr 1; omega)
      go_wp2_with (at_builtin; refine wpList_app rfl (.tmp 14) (.tmp 20) _ rfl B 5 (.int .u8 0) 1 1 Try.underlying53 infoB rfl (by omega) (by omega) (.slice A' (n + 1) c') _ _ rfl (HO.out.alloc _) wo.heap.size [vB (bI (m / 65536))] rfl rfl (by first | exact news_new _ _ _ | (rw [← hb]; exact news_new _ _ _)) (one_bytes [bI (m / 65536)]) (by omega) (by simp; omega) ?_; intro g1 cap1 w5 hg1 hown1 hgrow1 hor1)
      go_roundw
      case rel =>
        refine ⟨2, _, cap1, by omega, rfl, rfl, ?_, ?_⟩
        · show World.ownsRow _ _ _ _ _ _ _
          have e9 : (putL m 4).take 2 = (putL m 4).take 1 ++ [bI (m / 65536)] := by rw [← HBY.out]; rfl
          rw [e9, ← List.append_assoc, List.map_append]
          exact hown1
        · refine ⟨keep_grown HB.out.1 hgrow1 HB.out.2, fun r hr => ?_⟩
          obtain rfl : g1 = r := by injection hr
          rcases hor1 with e | e
          · exact HB.out.2 g1 e.symm
          · simp at e; exact .inr (by omega)
      case measure => first | (simp [intOf]; done) | (simp [intOf]; omega)
    · obtain rfl := hi.trans (show _ = Value.int .i64 1 from rfl)
      have hb : ∀ x : Int, ((x % 256 : Int)) = ((bI x).toNat : Int) := fun x => by rw [← wrap_bI, IntKind.wrap_u8']
      have HBY : Hid (bI (m / 256 ^ 1) = bI (m / 256)) := by show _ = _; first | rfl | (congr 1; omega)
      go_wp2_with (at_builtin; refine wpList_app rfl (.tmp 14) (.tmp 20) _ rfl B 5 (.int .u8 0) 1 1 Try.underlying53 infoB rfl (by omega) (by omega) (.slice A' (n + 2) c') _ _ rfl (HO.out.alloc _) wo.heap.size [vB (bI (m / 256))] rfl rfl (by first | exact news_new _ _ _ | (rw [← hb]; exact news_new _ _ _)) (one_bytes [bI (m / 256)]) (by omega) (by simp; omega) ?_; intro g1 cap1 w5 hg1 hown1 hgrow1 hor1)
      go_roundw
      case rel =>
        refine ⟨3, _, cap1, by omega, rfl, rfl, ?_, ?_⟩
        · show World.ownsRow _ _ _ _ _ _ _
          have e9 : (putL m 4).take 3 = (putL m 4).take 2 ++ [bI (m / 256)] := by rw [← HBY.out]; rfl
          rw [e9, ← List.append_assoc, List.map_append]
          exact hown1
        · refine ⟨keep_grown HB.out.1 hgrow1 HB.out.2, fun r hr => ?_⟩
          obtain rfl : g1 = r := by injection hr
          rcases hor1 with e | e
          · exact HB.out.2 g1 e.symm
          · simp at e; exact .inr (by omega)
      case measure => first | (simp [intOf]; done) | (simp [intOf]; omega)
    · obtain rfl := hi.trans (show _ = Value.int .i64 0 from rfl)
      have hb : ∀ x : Int, ((x % 256 : Int)) = ((bI x).toNat : Int) := fun x => by rw [← wrap_bI, IntKind.wrap_u8']
      have HBY : Hid (bI (m / 256 ^ 0) = bI m) := by show _ = _; first | rfl | (congr 1; omega)
      go_wp2_with (at_builtin; refine wpList_app rfl (.tmp 14) (.tmp 20) _ rfl B 5 (.int .u8 0) 1 1 Try.underlying53 infoB rfl (by omega) (by omega) (.slice A' (n + 3) c') _ _ rfl (HO.out.alloc _) wo.heap.size [vB (bI m)] rfl rfl (by first | exact news_new _ _ _ | (rw [← hb]; exact news_new _ _ _)) (one_bytes [bI m]) (by omega) (by simp; omega) ?_; intro g1 cap1 w5 hg1 hown1 hgrow1 hor1)
      go_roundw
      case rel =>
        refine ⟨4, _, cap1, by omega, rfl, rfl, ?_, ?_⟩
        · show World.ownsRow _ _ _ _ _ _ _
          have e9 : (putL m 4).take 4 = (putL m 4).take 3 ++ [bI m] := by rw [← HBY.out]; rfl
          rw [e9, ← List.append_assoc, List.map_append]
          exact hown1
        · refine ⟨keep_grown HB.out.1 hgrow1 HB.out.2, fun r hr => ?_⟩
          obtain rfl : g1 = r := by injection hr
          rcases hor1 with e | e
          · exact HB.out.2 g1 e.symm
          · simp at e; exact .inr (by omega)
      case measure => first | (simp [intOf]; done) | (simp [intOf]; omega)
    · obtain rfl := hi.trans (show _ = Value.int .i64 (-1) from rfl)
      go_wp2
      go_ret
      refine ⟨A', c', rfl, ?_, HBB.out _ HB.out.1, HB.out.1⟩
      have h := HO.out
      rw [List.take_of_length_le (by rw [putL_len]; exact Nat.le_refl _)] at h
      exact h
end Go.Proofs.Ytaenafcecfdffaa
/-
  Contract of chapter 16: the pillow's method Save.
-/
namespace Go.Proofs.Ytaenafcecfdffaa
open Go.RowKit
def outL (ps : List Pn) : Nat → List Int
  | 0 => []
  | k + 1 => match ps[k]? with
    | none => outL ps k
    | some x => if x.out then outL ps k ++ [(k : Int)] else outL ps k
theorem outL_succ {ps : List Pn} {k : Nat} {x : Pn} (h : ps[k]? = some x) : outL ps (k + 1) = if x.out then outL ps k ++ [(k : Int)] else outL ps k := by
  show (match ps[k]? with | none => _ | some x => _) = _
  rw [h]
theorem outL_bnd (ps : List Pn) : ∀ k, ∀ x ∈ outL ps k, 0 ≤ x ∧ x < (k : Int)
  | 0, x, hx => by cases hx
  | k + 1, x, hx => by
    have ih := outL_bnd ps k
    cases h : ps[k]? with
    | none =>
      have e : outL ps (k + 1) = outL ps k := by show (match ps[k]? with | none => _ | some x => _) = _; rw [h]
      rw [e] at hx
      have := ih x hx
      omega
    | some y =>
      rw [outL_succ h] at hx
      split at hx
      · rcases List.mem_append.1 hx with hx | hx
        · have := ih x hx
          omega
        · obtain rfl := List.mem_singleton.1 hx
          omega
      · have := ih x hx
        omega
theorem outL_len (ps : List Pn) : ∀ k, (outL ps k).length ≤ k
  | 0 => Nat.le_refl _
  | k + 1 => by
    have ih := outL_len ps k
    cases h : ps[k]? with
    | none =>
      have e : outL ps (k + 1) = outL ps k := by show (match ps[k]? with | none => _ | some x => _) = _; rw [h]
      rw [e]; omega
    | some y =>
      rw [outL_succ h]
      split
      · rw [List.length_append, List.length_singleton]; omega
      · omega
set_option maxRecDepth 100000 in
set_option maxHeartbeats 400000 in
theorem outF (a b c d : Int) (sw ot : Bool) (W : World) : Calls Try.prog 47 #[.agg #[.int .i64 a, .int .i64 b, .int .i64 c, .int .i64 d, .bool sw, .bool ot]] W fun e w' => e = .returned (.bool ot) ∧ Below W.heap.size W w' := by
  go_enter Try.func47, Try.ntmps47
  go_wp2
  go_ret
  exact ⟨rfl, by go_grown⟩
set_option maxRecDepth 100000 in
set_option maxHeartbeats 4000000 in
theorem outC (B g : Nat) (p s : Int) (z : Pil) (S M V L X P : Value) (W : World) (h : PilH W B g p s z S M V L X P) (hn : z.ps.length ≤ 1000000) :
    Calls Try.prog 46 #[.pointer (some ⟨g, 0, none⟩), .func (.func 47) #[] #[]] W (RetO (outL z.ps z.ps.length) W) := by
  have o5 : W.ownsRow B 91 6 P z.ps.length (pnsC z.ps) := h.o 5 _ rfl
  obtain ⟨PA, pc, rfl⟩ := own_form o5
  have a8 : W.cell? ⟨g, 8, none⟩ = some (.slice PA z.ps.length pc) := RowsH.cell h 8
  have hg := h.c.lt
  have O5 := Lib.hid o5
  clear h o5
  go_enter Try.func46, Try.ntmps46
  go_wp2
  go_loopw [5, 13] (fun v i wr => ∃ (k m : Nat) (A' : Option Addr) (c' : Nat), k ≤ z.ps.length ∧ m ≤ k ∧ i = .int .i64 (k : Int) ∧ v = .slice A' m c' ∧ Hid (wr.ownsRow W.heap.size 3 1 v m ((outL z.ps k).map vInt)) ∧ Hid ((outL z.ps k).length = m) ∧ Hid (Below W.heap.size W wr)) (fun _ i _ => z.ps.length - (intOf i).toNat)
  case atStart =>
    refine ⟨0, 0, none, 0, Nat.zero_le _, Nat.le_refl _, rfl, rfl, ?_, rfl, ?_⟩
    · exact World.ownsRow_nil _ _ _ _
    · exact Below.refl _ _
  case round =>
    obtain ⟨k, m, A', c', hk, hmk, rfl, rfl, HO, HLm, HB⟩ := hrel
    obtain ⟨wo, rfl⟩ : ∃ wo : World, wo = wr := ⟨_, rfl⟩
    by_cases hlt : k < z.ps.length
    · have jk : (k : Int) < (z.ps.length : Int) := by omega
      obtain ⟨x, hx⟩ := get_of_lt hlt
      have HS := Lib.hid (outL_succ hx)
      have C := fun i hi => pnsC_at hx i hi
      obtain ⟨bp, rfl, hbp, hbp2, c0'⟩ := own_at O5.out (j := k * 6 + 0) (u := .int .i64 x.q.a) (C 0 (by decide))
      have CC : Hid (∀ i u, i < 6 → (pnC x)[i]? = some u → wo.cell? ⟨bp, k * 6 + i, none⟩ = some u) := fun i u hi hu => by
        obtain ⟨bp', e', _, _, c'⟩ := own_at O5.out (j := k * 6 + i) (u := u) ((C i hi).trans hu)
        injection e' with e'
        injection e' with e'
        subst e'
        exact (HB.out.cell (p := ⟨bp, k * 6 + i, none⟩) hbp2).trans c'
      have c0 : wo.cell? ⟨bp, k * 6, none⟩ = some (.int .i64 x.q.a) := CC.out 0 _ (by decide) rfl
      have c1 : wo.cell? ⟨bp, k * 6 + 1, none⟩ = some (.int .i64 x.q.b) := CC.out 1 _ (by decide) rfl
      have c2 : wo.cell? ⟨bp, k * 6 + 2, none⟩ = some (.int .i64 x.q.c) := CC.out 2 _ (by decide) rfl
      have c3 : wo.cell? ⟨bp, k * 6 + 3, none⟩ = some (.int .i64 x.q.d) := CC.out 3 _ (by decide) rfl
      have c4 : wo.cell? ⟨bp, k * 6 + 4, none⟩ = some (.bool x.sew) := CC.out 4 _ (by decide) rfl
      have c5 : wo.cell? ⟨bp, k * 6 + 5, none⟩ = some (.bool x.out) := CC.out 5 _ (by decide) rfl
      clear c0' C hx
      obtain ⟨q, sw, ot⟩ := x
      obtain ⟨xa, xb, xc, xd⟩ := q
      simp only [] at c0 c1 c2 c3 c4 c5
      have CF := Lib.hid (fun W' => outF xa xb xc xd sw ot W')
      have hz := HB.out.size
      go_wp2_with fail
      refine (CF.out _).mono ?_
      rintro e w2 ⟨rfl, hb2⟩
      have O2 := Lib.hid (own_below (HO.out.alloc (.cells #[.int .i64 xa, .int .i64 xb, .int .i64 xc, .int .i64 xd, .bool sw, .bool ot] 91)) hb2)
      have B2 := Lib.hid (bvia (bvia HB.out (show Below wo.heap.size wo (wo.alloc (.cells #[.int .i64 xa, .int .i64 xb, .int .i64 xc, .int .i64 xd, .bool sw, .bool ot] 91)) by go_grown)) hb2)
      have hz2 : W.heap.size ≤ w2.heap.size := B2.out.size
      clear HO HB hb2 CF CC c0 c1 c2 c3 c4 c5
      obtain ⟨b, hb⟩ : ∃ b, b = ot := ⟨_, rfl⟩
      have HSB : Hid (ot = b) := hb.symm
      rw [← hb]
      clear hb
      cases b with
      | true =>
        go_wp2_with (at_builtin; refine wpList_app rfl (.tmp 21) (.tmp 23) _ rfl W.heap.size 3 (.int .i64 0) 1 8 Try.underlying39 infoInt rfl (by omega) (by omega) (.slice A' m c') _ _ rfl (O2.out.alloc _) w2.heap.size [vInt (k : Int)] rfl rfl (news_new _ _ _) (one_int _ _) (by omega) (by simp; omega) ?_; intro g1 cap1 w3 hg1 hown1 hgrow1 hor1)
        go_roundw
        case rel =>
          refine ⟨k + 1, m + 1, _, cap1, by omega, by omega, rfl, rfl, ?_, ?_, ?_⟩
          · show World.ownsRow _ _ _ _ _ _ _
            rw [HS.out, if_pos HSB.out, List.map_append]; exact hown1
          · show _ = _
            rw [HS.out, if_pos HSB.out, List.length_append, HLm.out]; rfl
          · show Below _ _ _
            exact (B2.out.alloc hz2 (.cells #[.int .i64 (k : Int)] 3)).grown hgrow1 (by simp; omega) (fun k hk => (O2.out.lt k hk).1)
        case measure => first | (simp [intOf]; done) | (simp [intOf]; omega)
      | false =>
        go_wp2
        go_roundw
        case rel =>
          refine ⟨k + 1, m, A', c', by omega, by omega, rfl, rfl, ?_, ?_, B2⟩
          · show World.ownsRow _ _ _ _ _ _ _
            rw [HS.out, if_neg (by rw [HSB.out]; decide)]; exact O2.out
          · show _ = _
            rw [HS.out, if_neg (by rw [HSB.out]; decide), HLm.out]
        case measure => first | (simp [intOf]; done) | (simp [intOf]; omega)
    · obtain rfl : k = z.ps.length := by omega
      have jk : ¬ (z.ps.length : Int) < (z.ps.length : Int) := by omega
      go_wp2
      go_ret
      exact ⟨A', m, c', rfl, HO.out, HLm.out, HB.out⟩
end Go.Proofs.Ytaenafcecfdffaa
/-
  Contract of chapter 16: the pillow's method Save.
-/
namespace Go.Proofs.Ytaenafcecfdffaa
open Go.RowKit
/-- an ending: a slice of bytes of the call's own -/
def RetU8 (xs : List UInt8) (w : World) (e : Ending) (w' : World) : Prop := ∃ A n c, e = .returned (.slice A n c) ∧ w'.ownsRow w.heap.size 5 1 (.slice A n c) n (xs.map vB) ∧ xs.length = n ∧ Below w.heap.size w w'
def stepB (x : Wk) : List UInt8 := [bI x.kind, bI x.at_, bI (x.word.size : Int)] ++ x.word.data.toList
def saveS (p s : Int) (l : List Wk) (k : Nat) : List UInt8 := [80, 76, 1, bI p, bI s] ++ putL (l.length : Int) 2 ++ (l.take k).flatMap stepB
def saveO (b : List UInt8) (os : List Int) (k : Nat) : List UInt8 := b ++ putL (os.length : Int) 2 ++ (os.take k).flatMap (fun i => putL i 2)
def saveA (p s : Int) (z : Pil) : List UInt8 := saveO (saveS p s z.steps z.steps.length) (outL z.ps z.ps.length) (outL z.ps z.ps.length).length
def saveB (p s : Int) (z : Pil) : List UInt8 := saveA p s z ++ putL (sumB (saveA p s z)) 4
theorem sumStep_bnd (h : Int) (x : UInt8) : 0 ≤ sumStep h x ∧ sumStep h x < 4294967296 := by unfold sumStep; omega
theorem sumB_bnd (xs : List UInt8) : 0 ≤ sumB xs ∧ sumB xs < 4294967296 := by
  rcases List.eq_nil_or_concat xs with rfl | ⟨l, x, rfl⟩
  · exact ⟨by decide, by decide⟩
  · unfold sumB
    rw [List.concat_eq_append, List.foldl_append]
    exact sumStep_bnd _ _
theorem stepB_len (x : Wk) : (stepB x).length = 3 + x.word.size := by
  unfold stepB
  rw [List.length_append, Array.length_toList]
  rfl
theorem steps_len (l : List Wk) (h : ∀ x ∈ l, x.word.size ≤ 1000) : (l.flatMap stepB).length ≤ l.length * 1003 := by
  induction l with
  | nil => simp
  | cons x l ih =>
    rw [List.flatMap_cons, List.length_append, stepB_len, List.length_cons]
    have h1 := h x (List.mem_cons_self ..)
    have h2 := ih (fun y hy => h y (List.mem_cons_of_mem _ hy))
    omega
theorem saveS_len (p s : Int) (l : List Wk) (k : Nat) (h : ∀ x ∈ l, x.word.size ≤ 1000) : (saveS p s l k).length ≤ 7 + l.length * 1003 := by
  unfold saveS
  rw [List.length_append, List.length_append, putL_len]
  have h1 := steps_len (l.take k) (fun x hx => h x (List.mem_of_mem_take hx))
  have h2 : (l.take k).length ≤ l.length := by rw [List.length_take]; omega
  have h3 : (l.take k).length * 1003 ≤ l.length * 1003 := Nat.mul_le_mul_right _ h2
  simp only [List.length_cons, List.length_nil]
  omega
theorem saveS_succ {p s : Int} {l : List Wk} {k : Nat} {x : Wk} (h : l[k]? = some x) : saveS p s l (k + 1) = saveS p s l k ++ [bI x.kind, bI x.at_, bI (x.word.size : Int)] ++ x.word.data.toList := by
  unfold saveS
  rw [List.take_add_one, h]
  show _ ++ (l.take k ++ [x]).flatMap stepB = _
  rw [List.flatMap_append, List.flatMap_cons, List.flatMap_nil, List.append_nil, ← List.append_assoc]
  show _ ++ (_ ++ _) = _
  rw [← List.append_assoc]
theorem putf_len (os : List Int) : (os.flatMap (fun i => putL i 2)).length = os.length * 2 := by
  induction os with
  | nil => rfl
  | cons x l ih => rw [List.flatMap_cons, List.length_append, putL_len, ih, List.length_cons]; omega
theorem saveO_len (b : List UInt8) (os : List Int) (k : Nat) : (saveO b os k).length ≤ b.length + 2 + os.length * 2 := by
  unfold saveO
  rw [List.length_append, List.length_append, putL_len, putf_len, List.length_take]
  have : min k os.length * 2 ≤ os.length * 2 := Nat.mul_le_mul_right _ (by omega)
  omega
theorem saveO_succ {b : List UInt8} {os : List Int} {k : Nat} {i : Int} (h : os[k]? = some i) : saveO b os (k + 1) = saveO b os k ++ putL i 2 := by
  unfold saveO
  rw [List.take_add_one, h]
  show _ ++ (os.take k ++ [i]).flatMap _ = _
  rw [List.flatMap_append, ← List.append_assoc]
  simp
theorem save_step {W wo w5 : World} {n' g1 cap1 : Nat} {A' : Option Addr} {c' : Nat} {bs cs : List UInt8} {xk xa : Int} {xw : ByteArray} (HB : Below W.heap.size W wo) (HO : wo.ownsRow W.heap.size 5 1 (.slice A' n' c') n' (bs.map vB))
    (hgrow1 : ((wo.alloc (.cells #[.int .i64 xk, .int .i64 xa, .string xw] 35)).alloc (.cells (cs.map vB).toArray 5)).grownBy w5 (Value.slice A' n' c').ownBlock)
    (hown1 : w5.ownsRow W.heap.size 5 1 (.slice (some ⟨g1, 0, none⟩) (n' + 3) cap1) (n' + 3) (bs.map vB ++ cs.map vB)) :
    Below W.heap.size W w5 ∧ Has w5 wo.heap.size 35 [.int .i64 xk, .int .i64 xa, .string xw] ∧ w5.ownsRow W.heap.size 5 1 (.slice (some ⟨g1, 0, none⟩) (n' + 3) cap1) (n' + 3) ((bs ++ cs).map vB) := by
  have hz := HB.size
  have BA : Below W.heap.size W (wo.alloc (.cells #[.int .i64 xk, .int .i64 xa, .string xw] 35)) := HB.alloc hz _
  refine ⟨(BA.alloc BA.size _).grown hgrow1 (by simp; omega) (fun k hk => (HO.lt k hk).1), ?_, by rw [List.map_append]; exact hown1⟩
  have K : Has (wo.alloc (.cells #[.int .i64 xk, .int .i64 xa, .string xw] 35)) wo.heap.size 35 [.int .i64 xk, .int .i64 xa, .string xw] := Has.new rfl
  refine (K.alloc _).same (hgrow1.block _ (K.alloc (.cells (cs.map vB).toArray 5)).lt (fun e => ?_))
  have := (HO.lt _ e.symm).2
  omega
set_option maxRecDepth 100000 in
set_option maxHeartbeats 8000000 in
theorem saveC (B g : Nat) (p s : Int) (z : Pil) (S M V L X P : Value) (W : World) (h : PilH W B g p s z S M V L X P) (hp : 0 < p) (hn : z.ps.length ≤ 1000000) (hs : z.steps.length ≤ 1000) (hw : ∀ x ∈ z.steps, x.word.size ≤ 1000) :
    Calls Try.prog 20 #[.pointer (some ⟨g, 0, none⟩)] W (RetU8 (saveB p s z) W) := by
  have o0 : W.ownsRow B 35 3 S z.steps.length (wksCells z.steps) := h.o 0 _ rfl
  obtain ⟨SA, sc, rfl⟩ := own_form o0
  have CM := Lib.hid (madeC g p W hp (RowsH.cell h 0))
  have hg := h.c.lt
  have a0 : W.cell? ⟨g, 0, none⟩ = some (.int .i64 p) := RowsH.cell h 0
  have a1 : W.cell? ⟨g, 1, none⟩ = some (.int .i64 s) := RowsH.cell h 1
  have RS := Lib.hid (own_rdW o0)
  have H := Lib.hid h
  have HW := Lib.hid hw
  clear h o0 hw
  have b5 : ∀ x : Int, IntKind.u8.wrap x = ((bI x).toNat : Int) := wrap_bI
  go_enter Try.func20, Try.ntmps20
  go_wp2_with fail
  refine CM.out.mono ?_
  rintro e w1 ⟨rfl, rfl⟩
  clear CM
  go_wp2
  go_region
  obtain ⟨W2, hW2⟩ : ∃ W2, W2 = (W.alloc (.cells #[.int .u8 80, .int .u8 76, .int .u8 1, vB (bI p), vB (bI s)] 5)).drew := ⟨_, rfl⟩
  rewrite [← hW2]
  have B2 : Hid (Below W.heap.size W W2) := by rw [hW2]; exact ((Below.refl W.heap.size W).alloc (Nat.le_refl _) _).drew
  have H2 : Hid (PilH W2 B g p s z (.slice SA z.steps.length sc) M V L X P) := RowsH.below H.out B2.out
  have O2 : Hid (W2.ownsRow W.heap.size 5 1 (.slice (some ⟨W.heap.size, 0, none⟩) 5 5) 5 (([80, 76, 1, bI p, bI s] : List UInt8).map vB)) := by
    rw [hW2]
    exact World.ownsRow_lit W _ 5 (Nat.le_refl _) (by decide) rfl
  have C2 := Lib.hid (put2C W.heap.size _ _ 5 (z.steps.length : Int) W2 O2.out B2.out.size (by decide))
  have b3 : W2.cell? ⟨g, 3, none⟩ = some (.slice SA z.steps.length sc) := RowsH.cell H2.out 3
  have hg2 := H2.out.c.lt
  have R2 := Lib.hid (RS.out.up B2.out)
  clear hW2 a0 a1 hg O2
  go_wp2_with fail
  refine C2.out.mono ?_
  rintro e w3 ⟨A3, c3, rfl, o3, hb3, _⟩
  have O3 : Hid (w3.ownsRow W.heap.size 5 1 (.slice A3 (5 + 2) c3) (5 + 2) ((saveS p s z.steps 0).map vB)) := o3
  have B3 := Lib.hid (B2.out.trans hb3)
  have H3 := Lib.hid (RowsH.below H.out B3.out)
  have R3 := Lib.hid (RS.out.up B3.out)
  have d3 : w3.cell? ⟨g, 3, none⟩ = some (.slice SA z.steps.length sc) := RowsH.cell H3.out 3
  have hg3 := H3.out.c.lt
  clear o3 hb3 b3 hg2 C2 H2 B2 R2
  go_wp2
  go_loopw [3, 36] (fun v i wr => ∃ (k n' : Nat) (A' : Option Addr) (c' : Nat), k ≤ z.steps.length ∧ i = .int .i64 (k : Int) ∧ v = .slice A' n' c' ∧ Hid (wr.ownsRow W.heap.size 5 1 v n' ((saveS p s z.steps k).map vB)) ∧ Hid ((saveS p s z.steps k).length = n') ∧ Hid (Below W.heap.size W wr)) (fun _ i _ => z.steps.length - (intOf i).toNat)
  case atStart => exact ⟨0, 5 + 2, A3, c3, Nat.zero_le _, rfl, rfl, O3, Lib.hid rfl, B3⟩
  case round =>
    clear O3 B3 H3 R3 d3 hg3
    obtain ⟨k, n', A', c', hk, rfl, rfl, HO, HLn, HB⟩ := hrel
    obtain ⟨wo, rfl⟩ : ∃ wo : World, wo = wr := ⟨_, rfl⟩
    have hz := HB.out.size
    have hnb : n' ≤ 2000000 := by
      have h1 := saveS_len p s z.steps k HW.out
      have h2 := HLn.out
      omega
    by_cases hlt : k < z.steps.length
    · have jk : (k : Int) < (z.steps.length : Int) := by omega
      obtain ⟨x, hx⟩ := get_of_lt hlt
      obtain ⟨b, o, hA, hb, c0, c1, c2⟩ := (RS.out.up HB.out) k x hx
      subst hA
      have HS := Lib.hid (saveS_succ (p := p) (s := s) hx)
      have hxs := HW.out x (mem_of_get hx)
      clear hx
      obtain ⟨xk, xa, xw⟩ := x
      simp only [] at c0 c1 c2 hxs HS
      have HA := Lib.hid (HO.out.alloc (.cells #[.int .i64 xk, .int .i64 xa, .string xw] 35))
      have BA := Lib.hid (HB.out.trans (show Below W.heap.size wo (wo.alloc (.cells #[.int .i64 xk, .int .i64 xa, .string xw] 35)) from (Below.refl _ _).alloc hz _))
      have hza := BA.out.size
      go_wp2_with (first | (at_builtin; (refine wpList_appM rfl (.tmp 40) (.tmp 51) _ rfl W.heap.size 5 (.int .u8 0) 1 1 Try.underlying53 infoB rfl (by omega) (by omega) (.slice A' n' c') _ _ rfl (HA.out.alloc _) 3 _ _ (by omega) [vB (bI xk), vB (bI xa), vB (bI (xw.size : Int))] rfl rfl (news_at _ [vB (bI xk), vB (bI xa), vB (bI (xw.size : Int))] _ (by simp)) (one_bytes [bI xk, bI xa, bI (xw.size : Int)]) (by omega) (by simp; omega) ?_); intro g1 cap1 w5 hg1 hown1 hgrow1 hor1; obtain ⟨hs5, hk5, ho5⟩ := save_step (cs := [bI xk, bI xa, bI (xw.size : Int)]) HB.out HO.out hgrow1 hown1; have HS5 := Lib.hid hs5; have O5 := Lib.hid ho5; have k5 : w5.cell? ⟨wo.heap.size, 2, none⟩ = some (.string xw) := hk5.cell 2; have q5 := hk5.lt; have hz5 := HS5.out.size; clear hs5 hk5 ho5 hown1 hgrow1) | (at_builtin; refine wpList_appS rfl (.tmp 53) (.tmp 55) rfl W.heap.size (.slice (some ⟨g1, 0, none⟩) (n' + 3) cap1) _ _ rfl O5.out xw rfl (by omega) hz5 ?_; intro A6 c6 w6 hown6 hgrow6))
      go_roundw
      case rel =>
        refine ⟨k + 1, n' + 3 + xw.size, A6, c6, by omega, by go_num, rfl, ?_, ?_, ?_⟩
        · show World.ownsRow _ _ _ _ _ _ _
          rw [HS.out]; exact hown6
        · show _ = _
          rw [HS.out, List.length_append, List.length_append, HLn.out, Array.length_toList]; rfl
        · show Below _ _ _
          exact HS5.out.grown hgrow6 hz5 (fun k hk => (O5.out.lt k hk).1)
      case measure => first | (simp [intOf]; done) | (simp [intOf]; omega)
    · obtain rfl : k = z.steps.length := by omega
      have jk : ¬ (z.steps.length : Int) < (z.steps.length : Int) := by omega
      have H4 := Lib.hid (RowsH.below H.out HB.out)
      have COU := Lib.hid (outC B g p s z (.slice SA z.steps.length sc) M V L X P wo H4.out hn)
      have HOL := outL_len z.ps z.ps.length
      have HOB := Lib.hid (outL_bnd z.ps z.ps.length)
      obtain ⟨os, hos⟩ : ∃ os, os = outL z.ps z.ps.length := ⟨_, rfl⟩
      have HOS := Lib.hid hos
      rw [← hos] at COU HOL HOB
      obtain ⟨ss, hss⟩ : ∃ ss, ss = saveS p s z.steps z.steps.length := ⟨_, rfl⟩
      have HSS := Lib.hid hss
      rw [← hss] at HO HLn
      clear hos hss H4
      go_wp2_with fail
      refine COU.out.mono ?_
      rintro e w4 ⟨A4, n4, c4, rfl, o4, l4, hb4⟩
      have OS4 := Lib.hid o4
      have L4 := Lib.hid l4
      have O4 := Lib.hid (own_below HO.out hb4)
      have B4 := Lib.hid (bvia HB.out hb4)
      have hn4 : n4 ≤ 1000000 := by omega
      have C4 := Lib.hid (put2C W.heap.size _ _ n' (n4 : Int) w4 O4.out B4.out.size (by omega))
      clear o4 l4 hb4 COU HO HB
      go_wp2_with fail
      refine C4.out.mono ?_
      rintro e w5 ⟨A5, c5, rfl, o5, hb5, hk5⟩
      have OI5 := Lib.hid (hk5.own OS4.out (fun r hr e => own_apart OS4.out O4.out (by decide) hr e))
      have O5 : Hid (w5.ownsRow W.heap.size 5 1 (.slice A5 (n' + 2) c5) (n' + 2) ((saveO ss os 0).map vB)) := by
        show World.ownsRow _ _ _ _ _ _ _
        unfold saveO
        rw [L4.out, List.take_zero, List.flatMap_nil, List.append_nil]
        exact o5
      have hz4 := B4.out.size
      have B5 := Lib.hid (B4.out.trans hb5)
      have hssb : n' ≤ 2000000 := hnb
      have hosl : os.length = n4 := L4.out
      clear hk5 hb5 C4 O4 B4 hz4 o5 hnb
      go_wp2
      go_loopw [3, 67] (fun v i wr => ∃ (j m' : Nat) (A' : Option Addr) (c' : Nat), j ≤ n4 ∧ i = .int .i64 (j : Int) ∧ v = .slice A' m' c' ∧ Hid (wr.ownsRow W.heap.size 5 1 v m' ((saveO ss os j).map vB)) ∧ Hid ((saveO ss os j).length = m') ∧ Hid (Below W.heap.size W wr) ∧ Hid (wr.ownsRow wo.heap.size 3 1 (.slice A4 n4 c4) n4 (os.map vInt))) (fun _ i _ => n4 - (intOf i).toNat)
      case atStart =>
        refine ⟨0, n' + 2, A5, c5, Nat.zero_le _, rfl, rfl, O5, ?_, B5, ?_⟩
        · show _ = _
          unfold saveO
          rw [List.take_zero, List.flatMap_nil, List.append_nil, List.length_append, putL_len, HLn.out]
        · exact OI5
      case round =>
        clear O5 B5 OS4 OI5
        obtain ⟨j, m', A', c', hj, rfl, rfl, HO, HLm, HB, HOI⟩ := hrel
        obtain ⟨wq, rfl⟩ : ∃ wq : World, wq = wr := ⟨_, rfl⟩
        have hmb : m' ≤ 5000000 := by
          have h1 := saveO_len ss os j
          have h2 := HLm.out
          have h3 := HLn.out
          omega
        by_cases hlt2 : j < n4
        · have jk : (j : Int) < (n4 : Int) := by omega
          obtain ⟨i, hi⟩ := get_of_lt (l := os) (k := j) (by omega)
          obtain ⟨b, o, rfl, hb, c0⟩ := own_rd1 HOI.out j i hi
          obtain ⟨hi0, hi1⟩ := HOB.out i (mem_of_get hi)
          have HS := Lib.hid (saveO_succ (b := ss) hi)
          have C6 := Lib.hid (put2C W.heap.size _ _ m' i wq HO.out HB.out.size (by omega))
          clear hi
          go_wp2_with fail
          refine C6.out.mono ?_
          rintro e w6 ⟨A6, c6, rfl, o6, hb6, hk6⟩
          have OI6 := Lib.hid (hk6.own HOI.out (fun r hr e => own_apart HOI.out HO.out (by decide) hr e))
          clear hk6
          go_wp2
          go_roundw
          case rel =>
            refine ⟨j + 1, m' + 2, A6, c6, by omega, by go_num, rfl, ?_, ?_, ?_, ?_⟩
            · show World.ownsRow _ _ _ _ _ _ _
              rw [HS.out]; exact o6
            · show _ = _
              rw [HS.out, List.length_append, putL_len, HLm.out]
            · exact HB.out.trans hb6
            · exact OI6
          case measure => first | (simp [intOf]; done) | (simp [intOf]; omega)
        · obtain rfl : j = n4 := by omega
          have jk : ¬ (j : Int) < (j : Int) := by omega
          have C7 := Lib.hid (sumC A' m' c' _ wq (own_rd1 HO.out) HLm.out (by omega))
          have HSA : Hid (saveO ss os j = saveA p s z) := by
            show _ = _
            unfold saveA
            rw [← HOS.out, ← HSS.out, hosl]
          rw [HSA.out] at C7 HO HLm
          have C8 := Lib.hid (put4C W.heap.size _ _ m' (sumB (saveA p s z)) wq HO.out HB.out.size (sumB_bnd _) (by omega))
          go_wp2_with fail
          refine C7.out.mono ?_
          rintro e w7 ⟨rfl, rfl⟩
          go_wp2_with fail
          refine C8.out.mono ?_
          rintro e w8 ⟨A8, c8, rfl, o8, hb8, _⟩
          go_wp2
          go_ret
          exact ⟨A8, m' + 4, c8, rfl, o8, by rw [saveB, List.length_append, putL_len, HLm.out], HB.out.trans hb8⟩
end Go.Proofs.Ytaenafcecfdffaa
/-
  The iterator of slices.Backward over crossings.
-/
namespace Go.Proofs.Ytaenafcecfdffaa
open Go.RowKit
/-- an index, and the crossing there -/
abbrev Bk := Nat × Q4
def encB (x : Bk) : Array Value := #[.int .i64 (x.1 : Int), .agg #[.int .i64 x.2.a, .int .i64 x.2.b, .int .i64 x.2.c, .int .i64 x.2.d]]
/-- the first k crossings from the end -/
def bkTo (qs : List Q4) (k : Nat) : List Bk := (List.range k).map (fun i => (qs.length - 1 - i, qs.getD (qs.length - 1 - i) ⟨0, 0, 0, 0⟩))
theorem bkTo_succ {qs : List Q4} {k : Nat} {q : Q4} (h : qs[qs.length - 1 - k]? = some q) : bkTo qs (k + 1) = bkTo qs k ++ [(qs.length - 1 - k, q)] := by
  unfold bkTo
  rw [List.range_succ, List.map_append, List.map_singleton, List.getD_eq_getElem?_getD, h]; rfl
/-- what a round leaves: all blocks below w0 but lb -/
def KeepL (lb w0 : Nat) (l : Nat) (A B : World) : Prop := A.heap.size ≤ B.heap.size ∧ ∀ r, r < w0 → r ≠ l → r ≠ lb → B.heap[r]? = A.heap[r]?
theorem KeepL.trans {lb w0 l : Nat} {A B C : World} (h : KeepL lb w0 l A B) (k : KeepL lb w0 l B C) : KeepL lb w0 l A C :=
  ⟨Nat.le_trans h.1 k.1, fun r hr hl hb => (k.2 r hr hl hb).trans (h.2 r hr hl hb)⟩
theorem KeepL.put (lb w0 l : Nat) (A : World) (o : Obj) : KeepL lb w0 l A (A.putObj l o) :=
  ⟨Nat.le_of_eq (by simp [World.putObj]), fun r _ hl _ => World.putObj_heap_other hl⟩
def OkB (qs : List Q4) (pre : List Bk) (x : Bk) : Prop := ∃ k, k < qs.length ∧ pre = bkTo qs k ∧ x.1 = qs.length - 1 - k ∧ qs[x.1]? = some x.2
set_option maxRecDepth 100000 in
set_option maxHeartbeats 4000000 in
theorem iterBk (I : List Bk → World → Prop) (l dd bx lb w0 bq oq n c : Nat) (rc0 : Loop) (qs : List Q4) (W : World) (hn : qs.length = n) (hn2 : n ≤ 1000000) (A : Option Addr)
    (hbx : bx < w0) (hbb : bx ≠ lb) (hbq : bq < w0) (hbl : bq ≠ lb) (hw0 : w0 ≤ l) (hl : l < W.heap.size) (h1 : W.cell? ⟨bx, 0, none⟩ = some (.slice A n c)) (hA : 0 < n → A = some ⟨bq, oq, none⟩)
    (hq : ∀ (k : Nat) (x : Q4), qs[k]? = some x → W.cell? ⟨bq, oq + k*4, none⟩ = some (.int .i64 x.a) ∧ W.cell? ⟨bq, oq + k*4+1, none⟩ = some (.int .i64 x.b) ∧ W.cell? ⟨bq, oq + k*4+2, none⟩ = some (.int .i64 x.c) ∧ W.cell? ⟨bq, oq+k*4+3, none⟩ = some (.int .i64 x.d))
    (h0 : Mid I l dd rc0 [] W)
    (hY : ∀ pre x W1, OkB qs pre x → Mid I l dd rc0 pre W1 → YieldAt Fence.wide 0 Try.prog l (encB x) W1 fun e W' => e = .returned (.bool true) ∧ Mid I l dd rc0 (pre ++ [x]) W' ∧ KeepL lb w0 l W1 W') :
    Calls Try.prog 70 #[.func (.yield l) #[] #[], .pointer (some ⟨bx, 0, none⟩)] W fun e W' => (∃ v, e = .returned v) ∧ Mid I l dd rc0 (bkTo qs n) W' := by
  have HY := Lib.hid hY; clear hY
  have HQ := Lib.hid hq; clear hq
  have H0 := Lib.hid h0; clear h0
  have H1 := Lib.hid h1
  have HA := Lib.hid hA; clear hA
  have q0 : bx < W.heap.size := by omega
  have i0 : IntKind.i64.wrap ((n : Int) - 1) = (n : Int) - 1 := IntWalk.i64_in _ (by omega)
  go_enter Try.func70, Try.ntmps70
  go_wp2
  go_loopw [3] (fun v wr => ∃ k : Nat, k ≤ n ∧ v = .int .i64 ((n : Int) - 1 - (k : Int)) ∧ Hid (Mid I l dd rc0 (bkTo qs k) wr) ∧ Hid (KeepL lb w0 l W wr)) (fun v _ => ((intOf v) + 1).toNat)
  case atStart => exact ⟨0, Nat.zero_le _, by go_num, H0, Lib.hid ⟨Nat.le_refl _, fun _ _ _ _ => rfl⟩⟩
  case round =>
    clear H0 h1
    obtain ⟨k, hk, rfl, HM, HK⟩ := hrel
    obtain ⟨wo, rfl⟩ : ∃ wo : World, wo = wr := ⟨_, rfl⟩
    have hsz := HK.out.1
    have q0 : bx < wo.heap.size := by omega
    by_cases hlt : k < n
    · obtain ⟨j, hj⟩ : ∃ j : Nat, j = n - 1 - k := ⟨_, rfl⟩
      have ej : (n : Int) - 1 - (k : Int) = (j : Int) := by omega
      rw [ej]
      obtain ⟨q, hqj⟩ := get_of_lt (l := qs) (k := j) (by omega)
      have hA := HA.out (by omega)
      subst hA
      have b1 : wo.cell? ⟨bx, 0, none⟩ = some (.slice (some ⟨bq, oq, none⟩) n c) := (cell_same (HK.out.2 bx hbx (by omega) hbb)).trans H1.out
      have CC := fun i v (h : W.cell? ⟨bq, i, none⟩ = some v) => (cell_same (a := ⟨bq, i, none⟩) (HK.out.2 bq hbq (by omega) hbl)).trans h
      obtain ⟨c0, c1, c2, c3⟩ := HQ.out j q hqj
      have c0 := CC _ _ c0
      have c1 := CC _ _ c1
      have c2 := CC _ _ c2
      have c3 := CC _ _ c3
      have jn : (j : Int) < (n : Int) := by omega
      have jz : (0 : Int) ≤ (j : Int) := by omega
      have q1 : bq < wo.heap.size := by omega
      have HS := Lib.hid (bkTo_succ (qs := qs) (k := k) (q := q) (by rw [hn, ← hj]; exact hqj))
      rw [hn, ← hj] at HS
      have hY := HY.out (bkTo qs k) (j, q) wo ⟨k, by omega, rfl, by rw [hn]; exact hj, hqj⟩ HM.out
      have eM : encB (j, q) = #[.int .i64 (j : Int), .agg #[.int .i64 q.a, .int .i64 q.b, .int .i64 q.c, .int .i64 q.d]] := rfl
      rw [eM] at hY
      unfold YieldAt at hY
      obtain ⟨fn, tmps, assign, body, hy, hR⟩ := hY
      have HRR := Lib.hid hR
      have hj1 : j + k + 1 ≤ n ∧ n ≤ j + k + 1 := by omega
      clear CC hqj hR eM HM hj ej
      go_upto_region 3 with (fail)
      refine (wpIn_wide (n := 0)).1 ?_
      gi_wp2
      refine ⟨rfl, HRR.out.mono ?_⟩
      rintro e w3 ⟨rfl, hM3, hKS⟩
      have hKS2 := Lib.hid (HK.out.trans hKS)
      clear hKS HK HRR
      gi_wp2
      go_wp2
      go_roundw
      case rel =>
        refine ⟨k + 1, by omega, by first | go_num | (congr 1; omega), ?_, hKS2⟩
        show Mid _ _ _ _ _ _
        rw [HS.out]; exact hM3
      case measure => first | (simp [intOf]; done) | (simp [intOf]; omega)
    · obtain rfl : k = n := by omega
      have e1 : (k : Int) - 1 - (k : Int) = -1 := by omega
      rw [e1]
      go_wp2
      go_end0
      exact ⟨⟨_, rfl⟩, HM.out⟩
end Go.Proofs.Ytaenafcecfdffaa
/-
  A region that draws, inside a round of a range over a function: the plain law of a condition in two stages (XHeadB) serves there, too.
-/
namespace Go.Proofs.Ytaenafcecfdffaa
open Go.RowKit
section
variable {P : Program} {ops : Array Oper} {Q : Exit → Act → World → Prop} {md : Region.Mode} {n : Nat}
theorem opIn_of_op {l i : Nat} (hQ : ¬ LetsOut Q) (hnd : ∀ (j : Nat) (o : Oper), ops[j]? = some o → ∀ c, o.op ≠ .defer c) {K K' : Act → World → Prop} (hK : ∀ a w, K a w → K' a w) {a : Act} {w : World} (h : wpOp P ops Q i K a w) : wpOpIn (Fence.wide.inRound l) n P ops Q i K' a w := by
  unfold wpOp at h
  unfold wpOpIn
  cases ho : ops[i]? with
  | none => rw [ho] at h; exact hK _ _ h
  | some o =>
    rw [ho] at h
    simp only [] at h ⊢
    by_cases hw : Region.wanted o (yielded ops a.tmps) = true
    · rw [if_pos hw] at h ⊢
      rcases h with h | h
      · refine ⟨fun _ _ => trivial, ?_⟩
        rw [Oper.semAt_eq _ _ _ (hnd i o ho)]
        unfold Oper.wp at h
        cases hr : (execOp a.eval o).run P w with
        | halt hh w' =>
          rw [hr] at h
          cases hh <;> first | exact h | exact h.elim
        | ok x w' =>
          rw [hr] at h
          cases x with
          | value v => exact hK _ _ h
          | skip => exact hK _ _ h
          | defer d => exact hK _ _ h
          | enter f args =>
            refine ⟨fun hd => by simp [Fence.wide, Fence.inRound] at hd, CallsIn.inRound _ (callsIn_wide.2 (Calls.mono h ?_))⟩
            rintro e w'' he
            cases e with
            | returned v => exact hK _ _ he
            | panicked c => exact he
            | outgrown => exact he
          | row row args =>
            refine ⟨fun hd => by simp [Fence.wide, Fence.inRound] at hd, fun c cs _ => ?_⟩
            obtain ⟨v, w'', hR, hs⟩ := h c cs
            exact ⟨v, w'', hK _ _ hR, stepsIn_wide.2 hs⟩
          | _ => exact h.elim
      · exact absurd h.2 hQ
    · rw [if_neg hw] at h ⊢
      exact ⟨fun _ _ => trivial, hK _ _ h⟩
theorem anyIn_of_any {l : Nat} (hQ : ¬ LetsOut Q) (hnd : ∀ (j : Nat) (o : Oper), ops[j]? = some o → ∀ c, o.op ≠ .defer c) : ∀ (fuel : Nat) (listed : Array Bool) (a : Act) (w : World), wpAny P md ops Q fuel listed a w → wpAnyIn (Fence.wide.inRound l) n P md ops Q fuel listed a w
  | 0, _, _, _, h => h
  | fuel + 1, _, _, _, h => ⟨h.1, fun i hi => opIn_of_op hQ hnd (fun _ _ h => anyIn_of_any hQ hnd fuel _ _ _ h) (h.2 i hi)⟩
/-- no operation of a list is a defer -/
def noDefer (l : List Oper) : Bool := l.all (fun o => match o.op with | .defer _ => false | _ => true)
theorem noDefer_ok {ops : Array Oper} (h : noDefer ops.toList = true) : ∀ (j : Nat) (o : Oper), ops[j]? = some o → ∀ c, o.op ≠ .defer c := fun j o ho c e => by
  have hm : o ∈ ops.toList := by
    rw [← Array.getElem?_toList] at ho
    exact List.mem_of_getElem? ho
  have := List.all_eq_true.1 h o hm
  simp [e] at this
theorem wpIn_region_B {id l : Nat} {a : Act} {w : World} (S : Bool → World → Prop) (k : Nat) (hm : P.follows .mixedOrders = true) (hnd : noDefer ops.toList = true) (hQ : ¬ LetsOut Q)
    (h : wpAnyB P .any ops (NoPanic Q) S k ops.size (Array.replicate ops.size false) a w.drew) : (Code.region id ops true).wpIn (Fence.wide.inRound l) n P Q a w := by
  refine wpIn_mono (wpIn_region_any hm (anyIn_of_any (Q := NoPanic Q) (fun h2 => hQ ?_) (noDefer_ok hnd) _ _ _ _ (wpAny_of_B _ _ _ _ h))) NoPanic.imp
  obtain ⟨a, w, h2⟩ := h2
  exact ⟨a, w, NoPanic.imp _ _ _ h2⟩
end
end Go.Proofs.Ytaenafcecfdffaa
