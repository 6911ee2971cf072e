/-
  Contracts of chapter 16: the reader of the pillow's bytes: take, one, two.
-/
import Derived.Test.YtaenafcecfdffaaVB10
import Derived.Test.YtaenafcecfdffaaVB12
import Derived.WalkLawsBesides
import Derived.Recover
import Derived.Defers
namespace Go.Proofs.Ytaenafcecfdffaa
open Go.RowKit
set_option maxRecDepth 100000 in
set_option maxHeartbeats 2000000 in
theorem takeNo (r n c k : Nat) (A : Option Addr) (W : World) (h : Has W r 131 [.slice A n c]) (hk : n < k) :
    Calls Try.prog 72 #[.pointer (some ⟨r, 0, none⟩), .int .i64 (k : Int)] W fun e w' => e = .panicked [{ v := .iface 127 (.agg #[]), recovered := false }] ∧ W = w' := by
  have a0 : W.cell? ⟨r, 0, none⟩ = some (.slice A n c) := h.cell 0
  have hr := h.lt
  have j1 : (n : Int) < (k : Int) := by omega
  go_enter Try.func72, Try.ntmps72
  go_wp2
  exact ⟨rfl, rfl, rfl⟩
theorem sliceB_lhm (A : Option Addr) (n c k : Nat) (hk : k ≤ c) (W : World) : (Instr.slice 53 (.slice A n c) none (some (.int .i64 (k : Int))) (some (.int .i64 (k : Int)))).run Try.prog W = .ok (.slice A k k) W := by
  have hs : (sizeOf (Try.prog.elem 53)).run Try.prog W = .ok 1 W := by kernel_rfl
  rw [run_slice_hm (P := Try.prog) (w := W) _ _ _ _ (by kernel_rfl) .i64 .i64 (k : Int) (k : Int) (by omega) (by omega) (by omega), hs]
  simp [sliced]
  intro _
  cases A <;> simp [Addr.add_zero']
theorem sliceB_from (A : Option Addr) (n c l : Nat) (hl : l ≤ n) (hnc : n ≤ c) : ∃ A' c', n - l ≤ c' ∧ (∀ W, (Instr.slice 53 (.slice A n c) (some (.int .i64 (l : Int))) none none).run Try.prog W = .ok (.slice A' (n - l) c') W) ∧ (0 < n - l → A' = A.map (fun x => x.add l)) := by
  have hs : ∀ W, (sizeOf (Try.prog.elem 53)).run Try.prog W = .ok 1 W := fun W => by kernel_rfl
  by_cases e : c - l = 0
  · refine ⟨A, 0, by omega, fun W => ?_, fun h => by omega⟩
    rw [run_slice_l (P := Try.prog) (w := W) _ _ _ _ (by kernel_rfl) .i64 (l : Int) (by omega) (by omega), hs]
    simp [sliced, e]
    intro h
    exact absurd (show c = l by omega) h
  · refine ⟨A.map (fun x => x.add l), c - l, by omega, fun W => ?_, fun _ => rfl⟩
    rw [run_slice_l (P := Try.prog) (w := W) _ _ _ _ (by kernel_rfl) .i64 (l : Int) (by omega) (by omega), hs]
    simp [sliced]
    intro h
    exact absurd h (by omega)
/-- the reader at block r, with the bytes bs (below block B) before it -/
structure RdrH (W : World) (B r : Nat) (bs : List UInt8) : Prop where
  ex : ∃ A c, Has W r 131 [.slice A bs.length c] ∧ bs.length ≤ c ∧ RdU8 W B A bs
  b : B ≤ r
theorem RdrH.keep {S : Nat → Prop} {W W' : World} {B r : Nat} {bs : List UInt8} (h : RdrH W B r bs) (k : KeepB S W W') (hr : ¬ S r) (hB : ∀ q, q < B → ¬ S q) : RdrH W' B r bs := by
  obtain ⟨A, c, hh, hc, hR⟩ := h.ex
  have hb := h.b
  have hlt := hh.lt
  refine ⟨⟨A, c, k.has hh hr, hc, fun j x hx => ?_⟩, h.b⟩
  obtain ⟨b, o, rfl, h1, h2⟩ := hR j x hx
  exact ⟨b, o, rfl, h1, (k.cell (by omega) (hB b h1)).trans h2⟩
theorem RdrH.drewN {W : World} {B r : Nat} {bs : List UInt8} (h : RdrH W B r bs) (n : Nat) : RdrH (W.drewN n) B r bs := ⟨h.ex, h.b⟩
set_option maxRecDepth 100000 in
set_option maxHeartbeats 2000000 in
theorem takeOk (B r k : Nat) (bs : List UInt8) (W : World) (h : RdrH W B r bs) (hk : k ≤ bs.length) (_hb : bs.length ≤ 1000000) :
    Calls Try.prog 72 #[.pointer (some ⟨r, 0, none⟩), .int .i64 (k : Int)] W fun e w' => ∃ A, e = .returned (.slice A k k) ∧ RdU8 w' B A (bs.take k) ∧ RdrH w' B r (bs.drop k) ∧ KeepB (fun q => q = r) W w' := by
  obtain ⟨A, c, hh, hc, hr⟩ := h.ex
  have hBr := h.b
  have a0 : W.cell? ⟨r, 0, none⟩ = some (.slice A bs.length c) := hh.cell 0
  have hlt := hh.lt
  have hfz := hh.free 0
  have j1 : ¬ (bs.length : Int) < (k : Int) := by omega
  obtain ⟨A', c', hc', hsl, hA'⟩ := sliceB_from A bs.length c k hk hc
  have hsm := fun W' => sliceB_lhm A bs.length c k (by omega) W'
  have HH := Lib.hid hh
  have HR := Lib.hid hr
  have HA := Lib.hid hA'
  clear hh h hr hA'
  go_enter Try.func72, Try.ntmps72
  go_wp2
  go_ret
  have hset : ∀ (b i : Nat) (v u : Value), b < B → W.cell? ⟨b, i, none⟩ = some v → (W.setCell ⟨r, 0, none⟩ u).cell? ⟨b, i, none⟩ = some v := fun b i v u hb hv => cell_far hv (by omega)
  refine ⟨A, rfl, fun j x hx => ?_, ⟨⟨A', c', ?_, ?_, fun j x hx => ?_⟩, hBr⟩, KeepB.set (S := fun q => q = r) W rfl 0 _⟩
  · rw [List.getElem?_take] at hx
    split at hx
    · obtain ⟨b, o, rfl, h1, h2⟩ := HR.out j x hx
      exact ⟨b, o, rfl, h1, hset _ _ _ _ h1 h2⟩
    · cases hx
  · rw [List.length_drop]
    exact HH.out.set 0 _
  · rw [List.length_drop]; exact hc'
  · rw [List.getElem?_drop] at hx
    have hl := lt_of_get hx
    obtain ⟨b, o, rfl, h1, h2⟩ := HR.out (k + j) x hx
    refine ⟨b, o + k, ?_, h1, ?_⟩
    · rw [HA.out (by omega), Option.map_some, Addr.add_lit]
    · rw [Nat.add_assoc]
      exact hset _ _ _ _ h1 h2
set_option maxRecDepth 100000 in
set_option maxHeartbeats 2000000 in
theorem oneOk (B r : Nat) (x : UInt8) (bs : List UInt8) (W : World) (h : RdrH W B r (x :: bs)) (hb : bs.length < 1000000) :
    Calls Try.prog 73 #[.pointer (some ⟨r, 0, none⟩)] W fun e w' => e = .returned (.int .i64 (x.toNat : Int)) ∧ RdrH w' B r bs ∧ KeepB (fun q => q = r) W w' := by
  have CT := Lib.hid (takeOk B r 1 (x :: bs) W h (by rw [List.length_cons]; omega) (by rw [List.length_cons]; omega))
  have hx := x.toNat_lt
  clear h
  go_enter Try.func73, Try.ntmps73
  go_wp2_with fail
  refine CT.out.mono ?_
  rintro e w1 ⟨A, rfl, r1, h1, k1⟩
  obtain ⟨b, o, rfl, hb1, c1⟩ := r1 0 x rfl
  have H1 := Lib.hid h1
  have K1 := Lib.hid k1
  rw [Nat.add_zero] at c1
  clear r1 h1 k1 CT
  go_wp2
  go_ret
  exact ⟨rfl, H1.out, K1.out⟩
set_option maxRecDepth 100000 in
set_option maxHeartbeats 2000000 in
theorem oneNo (B r : Nat) (W : World) (h : RdrH W B r []) :
    Calls Try.prog 73 #[.pointer (some ⟨r, 0, none⟩)] W fun e w' => e = .panicked [{ v := .iface 127 (.agg #[]), recovered := false }] ∧ W = w' := by
  obtain ⟨A, c, hh, _⟩ := h.ex
  have CT := Lib.hid (takeNo r 0 c 1 A W hh (by omega))
  clear h hh
  go_enter Try.func73, Try.ntmps73
  go_wp2_with fail
  refine CT.out.mono ?_
  rintro e w1 ⟨rfl, rfl⟩
  go_wp2
  exact ⟨rfl, rfl, rfl⟩
theorem or_bytes (x y : UInt8) : bits BinOp.or IntKind.i64 ((x.toNat : Int) * 256) (y.toNat : Int) = (x.toNat : Int) * 256 + (y.toNat : Int) := by
  have hx := x.toNat_lt
  have hy := y.toNat_lt
  have h := Nat.shiftLeft_add_eq_or_of_lt (b := y.toNat) (i := 8) hy x.toNat
  rw [Nat.shiftLeft_eq] at h
  have e1 : (x.toNat : Int) * 256 = ((x.toNat * 2 ^ 8 : Nat) : Int) := by omega
  have h1 : (BitVec.ofInt 64 ((x.toNat * 2 ^ 8 : Nat) : Int)).toNat = x.toNat * 2 ^ 8 := by
    rw [BitVec.ofInt_natCast, BitVec.toNat_ofNat]; exact Nat.mod_eq_of_lt (by omega)
  have h2 : (BitVec.ofInt 64 (y.toNat : Int)).toNat = y.toNat := by
    rw [BitVec.ofInt_natCast, BitVec.toNat_ofNat]; exact Nat.mod_eq_of_lt (by omega)
  rw [e1]
  show IntKind.i64.wrap ((BitVec.ofInt 64 ((x.toNat * 2 ^ 8 : Nat) : Int) ||| BitVec.ofInt 64 (y.toNat : Int)).toNat : Int) = _
  rw [BitVec.toNat_or, h1, h2, ← h, IntWalk.i64_in _ (by omega)]
  omega
set_option maxRecDepth 100000 in
set_option maxHeartbeats 2000000 in
theorem twoOk (B r : Nat) (x y : UInt8) (bs : List UInt8) (W : World) (h : RdrH W B r (x :: y :: bs)) (hb : bs.length < 900000) :
    Calls Try.prog 74 #[.pointer (some ⟨r, 0, none⟩)] W fun e w' => e = .returned (.int .i64 ((x.toNat : Int) * 256 + (y.toNat : Int))) ∧ RdrH w' B r bs ∧ KeepB (fun q => q = r) W w' := by
  have CT := Lib.hid (takeOk B r 2 (x :: y :: bs) W h (by rw [List.length_cons, List.length_cons]; omega) (by rw [List.length_cons, List.length_cons]; omega))
  have hx := x.toNat_lt
  have hy := y.toNat_lt
  clear h
  go_enter Try.func74, Try.ntmps74
  go_wp2_with fail
  refine CT.out.mono ?_
  rintro e w1 ⟨A, rfl, r1, h1, k1⟩
  obtain ⟨b, o, rfl, hb1, c1⟩ := r1 0 x rfl
  obtain ⟨b', o', e', hb2, c2⟩ := r1 1 y rfl
  injection e' with e'
  injection e' with e1 e2
  subst e1 e2
  have H1 := Lib.hid h1
  have K1 := Lib.hid k1
  rw [Nat.add_zero] at c1
  clear r1 h1 k1 CT
  go_wp2
  go_big_quiet (fail)
  go_wp2
  go_ret
  rw [or_bytes]
  exact ⟨rfl, H1.out.drewN nq, K1.out.drewN nq⟩
set_option maxRecDepth 100000 in
set_option maxHeartbeats 2000000 in
theorem twoNo (B r : Nat) (bs : List UInt8) (W : World) (h : RdrH W B r bs) (hb : bs.length < 2) :
    Calls Try.prog 74 #[.pointer (some ⟨r, 0, none⟩)] W fun e w' => e = .panicked [{ v := .iface 127 (.agg #[]), recovered := false }] ∧ W = w' := by
  obtain ⟨A, c, hh, _⟩ := h.ex
  have CT := Lib.hid (takeNo r bs.length c 2 A W hh hb)
  clear h hh
  go_enter Try.func74, Try.ntmps74
  go_wp2_with fail
  refine CT.out.mono ?_
  rintro e w1 ⟨rfl, rfl⟩
  go_wp2
  exact ⟨rfl, rfl, rfl⟩
abbrev shortP : List PanicEntry := [{ v := .iface 127 (.agg #[]), recovered := false }]
theorem takeC (B r k : Nat) (bs : List UInt8) (W : World) (h : RdrH W B r bs) (hb : bs.length ≤ 800000) :
    Calls Try.prog 72 #[.pointer (some ⟨r, 0, none⟩), .int .i64 (k : Int)] W fun e w' =>
      (bs.length < k ∧ e = .panicked shortP ∧ W = w') ∨ (k ≤ bs.length ∧ ∃ A, e = .returned (.slice A k k) ∧ RdU8 w' B A (bs.take k) ∧ RdrH w' B r (bs.drop k) ∧ KeepB (fun q => q = r) W w') := by
  by_cases hk : k ≤ bs.length
  · refine (takeOk B r k bs W h hk (by omega)).mono fun e w' q => .inr ⟨hk, q⟩
  · obtain ⟨A, c, hh, _⟩ := h.ex
    exact (takeNo r bs.length c k A W hh (by omega)).mono fun e w' q => .inl ⟨by omega, q⟩
theorem oneC (B r : Nat) (bs : List UInt8) (W : World) (h : RdrH W B r bs) (hb : bs.length ≤ 800000) :
    Calls Try.prog 73 #[.pointer (some ⟨r, 0, none⟩)] W fun e w' =>
      (bs = [] ∧ e = .panicked shortP ∧ W = w') ∨ (∃ x q, bs = x :: q ∧ e = .returned (.int .i64 (x.toNat : Int)) ∧ RdrH w' B r q ∧ KeepB (fun q => q = r) W w') := by
  cases bs with
  | nil => exact (oneNo B r W h).mono fun e w' q => .inl ⟨rfl, q⟩
  | cons x q => exact (oneOk B r x q W h (by rw [List.length_cons] at hb; omega)).mono fun e w' u => .inr ⟨x, q, rfl, u⟩
theorem twoC (B r : Nat) (bs : List UInt8) (W : World) (h : RdrH W B r bs) (hb : bs.length ≤ 800000) :
    Calls Try.prog 74 #[.pointer (some ⟨r, 0, none⟩)] W fun e w' =>
      (bs.length < 2 ∧ e = .panicked shortP ∧ W = w') ∨ (∃ x y q, bs = x :: y :: q ∧ e = .returned (.int .i64 ((x.toNat : Int) * 256 + (y.toNat : Int))) ∧ RdrH w' B r q ∧ KeepB (fun q => q = r) W w') := by
  rcases bs with _ | ⟨x, _ | ⟨y, q⟩⟩
  · exact (twoNo B r [] W h (by decide)).mono fun e w' q => .inl ⟨by decide, q⟩
  · exact (twoNo B r [x] W h (by show 1 < 2; decide)).mono fun e w' q => .inl ⟨by show 1 < 2; decide, q⟩
  · exact (twoOk B r x y q W h (by rw [List.length_cons, List.length_cons] at hb; omega)).mono fun e w' u => .inr ⟨x, y, q, rfl, u⟩
end Go.Proofs.Ytaenafcecfdffaa
/-
  Contracts of chapter 16: the closure that pillow.read defers: behind a panic of the reader it lays the error, behind a return it does nothing.
-/
namespace Go.Proofs.Ytaenafcecfdffaa
open Go.RowKit
set_option maxRecDepth 100000 in
set_option maxHeartbeats 2000000 in
theorem catchIdle (p : Addr) (w : World) :
    CallsD Try.prog 71 #[.pointer (some p)] .returning w fun e u' w' => e = .returned (.tuple #[]) ∧ u' = .returning ∧ w' = w := by
  refine callsD_of_wpS Try.func71 rfl fun c₀ cs hu => ?_
  apply wpS_seq
  apply wpS_region
  simp [wpOpsS, go_sem, recoverD, hu, Try.ntmps71, Exit.thenS]
  apply wpS_seq
  apply wpS_region
  simp [wpOpsS, go_sem, Exit.thenS]
  refine wpS_cond (t := false) (by simp [Act.eval, Array.replicate]) ?_
  simp only [Bool.false_eq_true, if_false]
  refine wpS_of_wp (wp_skip ?_)
  cases c₀
  simp_all [bodyPostS, results, Try.results71]
theorem assertShort (pv : Value) (w : World) : (Instr.typeAssert (.iface 127 pv) 20 127 true).run Try.prog w = .ok (.tuple #[pv, .bool true]) w := by
  simp [Instr.typeAssert, run_underlying Try.underlying127, go_sem, Result.andThen]
set_option maxRecDepth 100000 in
set_option maxHeartbeats 2000000 in
theorem catchPanic (g : Nat) (x : Int) (older : List PanicEntry) (w : World) (h : Has w g 26 [.int .i64 x]) :
    CallsD Try.prog 71 #[.pointer (some ⟨g, 0, none⟩)] (.panicking ({ v := .iface 127 (.agg #[]), recovered := false } :: older)) w fun e u' w' =>
      e = .returned (.tuple #[]) ∧ u' = .panicking ({ v := .iface 127 (.agg #[]), recovered := true } :: older) ∧ Has w' g 26 [.int .i64 6] ∧ KeepB (fun q => q = g) w w' := by
  refine callsD_of_wpS Try.func71 rfl fun c₀ cs hu => ?_
  apply wpS_seq
  apply wpS_region
  simp [wpOpsS, go_sem, recoverD, hu, Try.ntmps71, Exit.thenS]
  apply wpS_seq
  apply wpS_region
  simp [wpOpsS, go_sem, Exit.thenS]
  refine wpS_cond (t := true) (by simp [Act.eval, Array.replicate]) ?_
  simp only [if_true]
  have c0 : w.cell? ⟨g, 0, none⟩ = some (.int .i64 x) := h.cell 0
  have fz := h.free 0
  have hg := h.lt
  have hta := fun W' => assertShort (.agg #[]) W'
  refine wpS_of_wp ?_
  simp only [Array.replicate_succ, Array.replicate_zero, List.push_toArray, List.append_toArray, List.nil_append, List.cons_append, List.setIfInBounds_toArray, List.set_cons_zero, List.set_cons_succ]
  go_wp2
  have hs : Has (w.setCell ⟨g, 0, none⟩ (.int .i64 6)) g 26 [.int .i64 6] := h.set 0 _
  have kb : KeepB (fun q => q = g) w (w.setCell ⟨g, 0, none⟩ (.int .i64 6)) := KeepB.set (S := fun q => q = g) w rfl 0 _
  have ba : ∀ o, Below (w.setCell ⟨g, 0, none⟩ (.int .i64 6)).heap.size (w.setCell ⟨g, 0, none⟩ (.int .i64 6)) ((w.setCell ⟨g, 0, none⟩ (.int .i64 6)).alloc o) := fun o => (Below.refl _ _).alloc (Nat.le_refl _) o
  exact ⟨rfl, _, rfl, .tuple #[], by simp [results, Try.results71], rfl, rfl, hs.below (ba _) hs.lt, kb.trans (KeepB.of_below (ba _))⟩
end Go.Proofs.Ytaenafcecfdffaa
/-
  Plain law of the pillow's sum: bytes of which one is another have another sum.
-/
namespace Go.Proofs.Ytaenafcecfdffaa
open Go.RowKit
theorem sumStep_nat (h : Nat) (x : UInt8) (hh : h < 4294967296) : sumStep (h : Int) x = ((((h ^^^ x.toNat) * 16777619) % 4294967296 : Nat) : Int) := by
  have hx : x.toNat < 256 := x.toNat_lt
  have hm : ((x.toNat : Int) % 4294967296) = (x.toNat : Int) := by omega
  unfold sumStep
  rw [hm]
  have e : bits BinOp.xor IntKind.u32 (h : Int) (x.toNat : Int) = ((h ^^^ x.toNat : Nat) : Int) := by
    have hx2 : h ^^^ x.toNat < 2 ^ 32 := Nat.xor_lt_two_pow (by omega) (by omega)
    have h1 : (BitVec.ofInt 32 (h : Int)).toNat = h := by
      rw [BitVec.ofInt_natCast, BitVec.toNat_ofNat]; exact Nat.mod_eq_of_lt (by omega)
    have h2 : (BitVec.ofInt 32 (x.toNat : Int)).toNat = x.toNat := by
      rw [BitVec.ofInt_natCast, BitVec.toNat_ofNat]; exact Nat.mod_eq_of_lt (by omega)
    show IntKind.u32.wrap ((BitVec.ofInt 32 (h : Int) ^^^ BitVec.ofInt 32 (x.toNat : Int)).toNat : Int) = _
    rw [BitVec.toNat_xor, h1, h2, IntKind.wrap_u32]
    omega
  rw [e]
  omega
/-- the step from one sum to the next, in numbers -/
def stepN (h : Nat) (x : UInt8) : Nat := ((h ^^^ x.toNat) * 16777619) % 4294967296
theorem stepN_eq (h : Nat) (x : UInt8) : stepN h x = ((h ^^^ x.toNat) * 16777619) % 4294967296 := rfl
theorem stepN_lt (h : Nat) (x : UInt8) : stepN h x < 4294967296 := by rw [stepN_eq]; omega
theorem xor_lt {h : Nat} {x : UInt8} (hh : h < 4294967296) : h ^^^ x.toNat < 4294967296 := Nat.xor_lt_two_pow (n := 32) hh (Nat.lt_of_lt_of_le x.toNat_lt (by decide))
theorem mul_back (c : Nat) : c * 16777619 * 899433627 = c + 4294967296 * (c * 3513497) := by
  omega
theorem mul_inj {a b : Nat} (ha : a < 4294967296) (hb : b < 4294967296) (h : a * 16777619 % 4294967296 = b * 16777619 % 4294967296) : a = b := by
  have e : ∀ c, c < 4294967296 → (c * 16777619 % 4294967296) * 899433627 % 4294967296 = c := by
    intro c hc
    rw [Nat.mod_mul_mod, mul_back, Nat.add_mul_mod_self_left, Nat.mod_eq_of_lt hc]
  rw [← e a ha, ← e b hb, h]
theorem stepN_inj {h h' : Nat} {x : UInt8} (hh : h < 4294967296) (hh' : h' < 4294967296) (e : stepN h x = stepN h' x) : h = h' := by
  rw [stepN_eq, stepN_eq] at e
  have e1 := mul_inj (xor_lt hh) (xor_lt hh') e
  have e2 : h ^^^ x.toNat ^^^ x.toNat = h' ^^^ x.toNat ^^^ x.toNat := by rw [e1]
  rw [Nat.xor_assoc, Nat.xor_assoc, Nat.xor_self, Nat.xor_zero, Nat.xor_zero] at e2
  exact e2
theorem stepN_byte {h : Nat} {x y : UInt8} (hh : h < 4294967296) (e : stepN h x = stepN h y) : x = y := by
  rw [stepN_eq, stepN_eq] at e
  have e1 := mul_inj (xor_lt hh) (xor_lt hh) e
  have e2 : h ^^^ (h ^^^ x.toNat) = h ^^^ (h ^^^ y.toNat) := by rw [e1]
  rw [← Nat.xor_assoc, ← Nat.xor_assoc, Nat.xor_self, Nat.zero_xor, Nat.zero_xor] at e2
  have e3 : x.toNat = y.toNat := e2
  exact UInt8.toNat_inj.1 e3
def sumN (xs : List UInt8) (h : Nat) : Nat := xs.foldl stepN h
theorem sumN_cons (x : UInt8) (xs : List UInt8) (h : Nat) : sumN (x :: xs) h = sumN xs (stepN h x) := by unfold sumN; rw [List.foldl_cons]
theorem sumN_nil (h : Nat) : sumN [] h = h := by unfold sumN; rw [List.foldl_nil]
theorem sumN_inj (hI : ∀ (h h' : Nat) (x : UInt8), h < 4294967296 → h' < 4294967296 → stepN h x = stepN h' x → h = h') (hL : ∀ h x, stepN h x < 4294967296) : ∀ (xs : List UInt8) (h h' : Nat), h < 4294967296 → h' < 4294967296 → sumN xs h = sumN xs h' → h = h' := by
  intro xs
  induction xs with
  | nil => intro h h' _ _ e; rw [sumN_nil, sumN_nil] at e; exact e
  | cons x xs ih =>
    intro h h' hh hh' e
    rw [sumN_cons, sumN_cons] at e
    exact hI h h' x hh hh' (ih _ _ (hL h x) (hL h' x) e)
/-- one byte is another: the sum is another -/
theorem sumN_set (hI : ∀ (h h' : Nat) (x : UInt8), h < 4294967296 → h' < 4294967296 → stepN h x = stepN h' x → h = h') (hL : ∀ h x, stepN h x < 4294967296) (hB : ∀ (h : Nat) (x y : UInt8), h < 4294967296 → stepN h x = stepN h y → x = y) (y : UInt8) : ∀ (xs : List UInt8) (k h : Nat), k < xs.length → xs[k]? ≠ some y → h < 4294967296 → sumN (xs.set k y) h ≠ sumN xs h := by
  intro xs
  induction xs with
  | nil => intro k h hk; simp at hk
  | cons x xs ih =>
    intro k h hk hy hh
    cases k with
    | zero =>
      rw [List.set_cons_zero, sumN_cons, sumN_cons]
      intro e
      have e1 := sumN_inj hI hL xs _ _ (hL h y) (hL h x) e
      exact hy (by rw [hB h y x hh e1]; rfl)
    | succ k =>
      rw [List.set_cons_succ, sumN_cons, sumN_cons]
      exact ih k _ (by simpa using hk) (by simpa using hy) (hL h x)
theorem sumB_nat (xs : List UInt8) : sumB xs = ((sumN xs 2166136261 : Nat) : Int) := by
  have h : ∀ (xs : List UInt8) (h : Nat), h < 4294967296 → xs.foldl sumStep (h : Int) = ((sumN xs h : Nat) : Int) := by
    intro xs
    induction xs with
    | nil => intro h _; rw [sumN_nil]; rfl
    | cons x xs ih =>
      intro h hh
      rw [List.foldl_cons, sumStep_nat h x hh, ← stepN_eq, sumN_cons]
      exact ih (stepN h x) (stepN_lt h x)
  exact h xs 2166136261 (by decide)
theorem sumB_set (xs : List UInt8) (k : Nat) (y : UInt8) (hk : k < xs.length) (hy : xs[k]? ≠ some y) : sumB (xs.set k y) ≠ sumB xs := by
  rw [sumB_nat, sumB_nat]
  intro e
  exact sumN_set (fun _ _ _ => stepN_inj) stepN_lt (fun _ _ _ => stepN_byte) y xs k 2166136261 hk hy (by decide) (Int.ofNat.inj e)
end Go.Proofs.Ytaenafcecfdffaa
/-
  Plain words of chapter 16: what the bytes of a pillow say, and that what Save writes says what was saved.
-/
namespace Go.Proofs.Ytaenafcecfdffaa
open Go.RowKit
structure Sv where
  p : Int
  s : Int
  steps : List Wk
  out : List Int
def sv0 : Sv := ⟨0, 0, [], []⟩
def two8 (x y : UInt8) : Int := (x.toNat : Int) * 256 + (y.toNat : Int)
def rdSteps : Nat → List UInt8 → Option (List Wk × List UInt8)
  | 0, bs => some ([], bs)
  | n + 1, o :: a :: k :: r => if k.toNat ≤ r.length then (rdSteps n (r.drop k.toNat)).map (fun x => (⟨(o.toNat : Int), (a.toNat : Int), ⟨(r.take k.toNat).toArray⟩⟩ :: x.1, x.2)) else none
  | _ + 1, _ => none
def rdOuts : Nat → List UInt8 → Option (List Int × List UInt8)
  | 0, bs => some ([], bs)
  | n + 1, x :: y :: r => (rdOuts n r).map (fun z => (two8 x y :: z.1, z.2))
  | _ + 1, _ => none
def be32 (a b c d : UInt8) : Int := (a.toNat : Int) * 16777216 + (b.toNat : Int) * 65536 + (c.toNat : Int) * 256 + (d.toNat : Int)
def rdEnd (b : List UInt8) (v : Sv) (r : List UInt8) : Int × Sv :=
  match r with
  | [e0, e1, e2, e3] => if sumB (b.take (b.length - 4)) = be32 e0 e1 e2 e3 then (0, v) else (160, v)
  | _ => (6, v)
def rdTail (b : List UInt8) (p s : Int) (l : List Wk) (r : List UInt8) : Int × Sv :=
  match r with
  | m1 :: m0 :: r => match rdOuts (two8 m1 m0).toNat r with
    | some (o, r') => rdEnd b ⟨p, s, l, o⟩ r'
    | none => (6, sv0)
  | _ => (6, sv0)
def rdBody (b r : List UInt8) : Int × Sv :=
  match r with
  | p :: s :: n1 :: n0 :: r => match rdSteps (two8 n1 n0).toNat r with
    | some (l, r') => rdTail b (p.toNat : Int) (s.toNat : Int) l r'
    | none => (6, sv0)
  | _ => (6, sv0)
def rdP (b : List UInt8) : Int × Sv := if b.take 3 = [80, 76, 1] then rdBody b (b.drop 3) else (6, sv0)
theorem two8_put (m : Int) (h0 : 0 ≤ m) (h1 : m < 65536) : putL m 2 = [bI (m / 256), bI m] ∧ two8 (bI (m / 256)) (bI m) = m := by
  have e : putL m 2 = [bI (m / 256 ^ 1), bI (m / 256 ^ 0)] := rfl
  have e1 : (256 : Int) ^ 1 = 256 := by decide
  have e0 : (256 : Int) ^ 0 = 1 := by decide
  rw [e, e1, e0, Int.ediv_one]
  refine ⟨rfl, ?_⟩
  have h : ∀ x : Int, ((bI x).toNat : Int) = x % 256 := fun x => by
    unfold bI
    rw [UInt8.toNat_ofNat']
    omega
  unfold two8
  rw [h, h]
  omega
theorem bI_val (x : Int) (h0 : 0 ≤ x) (h1 : x < 256) : ((bI x).toNat : Int) = x := by
  unfold bI
  rw [UInt8.toNat_ofNat']
  omega
theorem bI_nat (n : Nat) (h1 : n < 256) : (bI (n : Int)).toNat = n := by
  have := bI_val n (by omega) (by omega)
  omega
theorem be32_put (m : Int) (h0 : 0 ≤ m) (h1 : m < 4294967296) : ∃ a b c d, putL m 4 = [a, b, c, d] ∧ be32 a b c d = m := by
  refine ⟨bI (m / 256 ^ 3), bI (m / 256 ^ 2), bI (m / 256 ^ 1), bI (m / 256 ^ 0), rfl, ?_⟩
  have e3 : (256 : Int) ^ 3 = 16777216 := by decide
  have e2 : (256 : Int) ^ 2 = 65536 := by decide
  have e1 : (256 : Int) ^ 1 = 256 := by decide
  have e0 : (256 : Int) ^ 0 = 1 := by decide
  rw [e3, e2, e1, e0, Int.ediv_one]
  have h : ∀ x : Int, ((bI x).toNat : Int) = x % 256 := fun x => by
    unfold bI
    rw [UInt8.toNat_ofNat']
    omega
  unfold be32
  rw [h, h, h, h]
  omega
theorem be32_inj {a b c d a' b' c' d' : UInt8} (h : be32 a b c d = be32 a' b' c' d') : [a, b, c, d] = [a', b', c', d'] := by
  have l : ∀ x : UInt8, x.toNat < 256 := fun x => x.toNat_lt
  have := l a; have := l b; have := l c; have := l d; have := l a'; have := l b'; have := l c'; have := l d'
  unfold be32 at h
  have q : ∀ x y : UInt8, x.toNat = y.toNat → x = y := fun x y e => UInt8.toNat_inj.1 e
  rw [q a a' (by omega), q b b' (by omega), q c c' (by omega), q d d' (by omega)]
theorem rdSteps_suf : ∀ (n : Nat) (bs : List UInt8) (l : List Wk) (r : List UInt8), rdSteps n bs = some (l, r) → ∃ t, bs = t ++ r
  | 0, bs, l, r, h => by
    injection h with h
    injection h with h1 h2
    exact ⟨[], h2⟩
  | n + 1, [], l, r, h => by cases h
  | n + 1, [o], l, r, h => by cases h
  | n + 1, [o, a], l, r, h => by cases h
  | n + 1, o :: a :: k :: q, l, r, h => by
    have h : (if k.toNat ≤ q.length then (rdSteps n (q.drop k.toNat)).map (fun x => ((⟨(o.toNat : Int), (a.toNat : Int), ⟨(q.take k.toNat).toArray⟩⟩ : Wk) :: x.1, x.2)) else none) = some (l, r) := h
    split at h
    · cases hr : rdSteps n (q.drop k.toNat) with
      | none => rw [hr] at h; cases h
      | some x =>
        obtain ⟨l1, r1⟩ := x
        rw [hr] at h
        injection h with h
        injection h with h1 h2
        obtain ⟨t, ht⟩ := rdSteps_suf n _ _ _ hr
        refine ⟨o :: a :: k :: (q.take k.toNat ++ t), ?_⟩
        have h2 : r1 = r := h2
        subst h2
        rw [List.cons_append, List.cons_append, List.cons_append, List.append_assoc, ← ht, List.take_append_drop]
    · cases h
theorem rdOuts_suf : ∀ (n : Nat) (bs : List UInt8) (l : List Int) (r : List UInt8), rdOuts n bs = some (l, r) → ∃ t, bs = t ++ r
  | 0, bs, l, r, h => by
    injection h with h
    injection h with h1 h2
    exact ⟨[], h2⟩
  | n + 1, [], l, r, h => by cases h
  | n + 1, [o], l, r, h => by cases h
  | n + 1, x :: y :: q, l, r, h => by
    have h : (rdOuts n q).map (fun z => (two8 x y :: z.1, z.2)) = some (l, r) := h
    cases hr : rdOuts n q with
    | none => rw [hr] at h; cases h
    | some z =>
      obtain ⟨l1, r1⟩ := z
      rw [hr] at h
      injection h with h
      injection h with h1 h2
      obtain ⟨t, ht⟩ := rdOuts_suf n _ _ _ hr
      have h2 : r1 = r := h2
      subst h2
      exact ⟨x :: y :: t, by rw [ht]; rfl⟩
theorem rdSteps_len : ∀ (n : Nat) (bs : List UInt8) (l : List Wk) (r : List UInt8), rdSteps n bs = some (l, r) → l.length = n ∧ ∀ x ∈ l, 0 ≤ x.kind ∧ x.kind < 256 ∧ 0 ≤ x.at_ ∧ x.at_ < 256 ∧ x.word.size < 256
  | 0, bs, l, r, h => by
    injection h with h
    injection h with h1 h2
    have h1 : [] = l := h1
    subst h1
    exact ⟨rfl, fun x hx => by cases hx⟩
  | n + 1, [], l, r, h => by cases h
  | n + 1, [o], l, r, h => by cases h
  | n + 1, [o, a], l, r, h => by cases h
  | n + 1, o :: a :: k :: q, l, r, h => by
    have h : (if k.toNat ≤ q.length then (rdSteps n (q.drop k.toNat)).map (fun x => ((⟨(o.toNat : Int), (a.toNat : Int), ⟨(q.take k.toNat).toArray⟩⟩ : Wk) :: x.1, x.2)) else none) = some (l, r) := h
    split at h
    · rename_i hk
      cases hr : rdSteps n (q.drop k.toNat) with
      | none => rw [hr] at h; cases h
      | some x =>
        obtain ⟨l1, r1⟩ := x
        rw [hr] at h
        injection h with h
        injection h with h1 h2
        have h1 : (⟨(o.toNat : Int), (a.toNat : Int), ⟨(q.take k.toNat).toArray⟩⟩ : Wk) :: l1 = l := h1
        subst h1
        obtain ⟨e1, e2⟩ := rdSteps_len n _ _ _ hr
        have := o.toNat_lt
        have := a.toNat_lt
        have hk2 := k.toNat_lt
        refine ⟨by rw [List.length_cons, e1], fun x hx => ?_⟩
        rcases List.mem_cons.1 hx with rfl | hx
        · refine ⟨by show (0 : Int) ≤ (o.toNat : Int); omega, by show (o.toNat : Int) < 256; omega, by show (0 : Int) ≤ (a.toNat : Int); omega, by show (a.toNat : Int) < 256; omega, ?_⟩
          show (q.take k.toNat).toArray.size < 256
          rw [List.size_toArray, List.length_take]
          omega
        · exact e2 x hx
    · cases h
theorem rdOuts_len : ∀ (n : Nat) (bs : List UInt8) (l : List Int) (r : List UInt8), rdOuts n bs = some (l, r) → l.length = n ∧ ∀ x ∈ l, 0 ≤ x ∧ x < 65536
  | 0, bs, l, r, h => by
    injection h with h
    injection h with h1 h2
    have h1 : [] = l := h1
    subst h1
    exact ⟨rfl, fun x hx => by cases hx⟩
  | n + 1, [], l, r, h => by cases h
  | n + 1, [o], l, r, h => by cases h
  | n + 1, x :: y :: q, l, r, h => by
    have h : (rdOuts n q).map (fun z => (two8 x y :: z.1, z.2)) = some (l, r) := h
    cases hr : rdOuts n q with
    | none => rw [hr] at h; cases h
    | some z =>
      obtain ⟨l1, r1⟩ := z
      rw [hr] at h
      injection h with h
      injection h with h1 h2
      have h1 : two8 x y :: l1 = l := h1
      subst h1
      obtain ⟨e1, e2⟩ := rdOuts_len n _ _ _ hr
      refine ⟨by rw [List.length_cons, e1], fun u hu => ?_⟩
      rcases List.mem_cons.1 hu with rfl | hu
      · have := x.toNat_lt
        have := y.toNat_lt
        unfold two8
        omega
      · exact e2 u hu
/-- bytes that say something end with their sum -/
theorem rdP_sum {b : List UInt8} (h : (rdP b).1 = 0) : ∃ e0 e1 e2 e3, 4 ≤ b.length ∧ b.drop (b.length - 4) = [e0, e1, e2, e3] ∧ sumB (b.take (b.length - 4)) = be32 e0 e1 e2 e3 := by
  have six : ∀ v : Sv, ((6, v) : Int × Sv).1 = 0 → False := fun v h => by revert h; show (6 : Int) = 0 → False; omega
  unfold rdP at h
  split at h
  case isFalse => exact (six _ h).elim
  have h0 : b = b.take 3 ++ b.drop 3 := (List.take_append_drop 3 b).symm
  generalize b.drop 3 = r at h h0
  unfold rdBody at h
  split at h
  case h_2 => exact (six _ h).elim
  rename_i p s n1 n0 r1
  split at h
  case h_2 => exact (six _ h).elim
  rename_i l r2 hl
  obtain ⟨t2, ht2⟩ := rdSteps_suf _ _ _ _ hl
  unfold rdTail at h
  split at h
  case h_2 => exact (six _ h).elim
  rename_i m1 m0 r3
  split at h
  case h_2 => exact (six _ h).elim
  rename_i o r4 ho
  obtain ⟨t4, ht4⟩ := rdOuts_suf _ _ _ _ ho
  unfold rdEnd at h
  split at h
  case h_2 => exact (six _ h).elim
  rename_i e0 e1 e2 e3
  split at h
  case isFalse => exact absurd h (by show ¬ (160 : Int) = 0; omega)
  rename_i hs
  rw [ht4] at ht2
  have hb : b = (b.take 3 ++ (p :: s :: n1 :: n0 :: (t2 ++ (m1 :: m0 :: t4)))) ++ [e0, e1, e2, e3] := by
    refine h0.trans ?_
    rw [ht2]
    simp
  refine ⟨e0, e1, e2, e3, ?_, ?_, hs⟩
  · rw [hb, List.length_append]; simp
  · generalize hgen : b.take 3 ++ (p :: s :: n1 :: n0 :: (t2 ++ (m1 :: m0 :: t4))) = u at hb
    rw [hb, List.length_append, show u.length + [e0, e1, e2, e3].length - 4 = u.length by simp, List.drop_left]
theorem rdP_bnd {b : List UInt8} (h : (rdP b).1 = 0) : 0 ≤ (rdP b).2.p ∧ (rdP b).2.p < 256 ∧ 0 ≤ (rdP b).2.s ∧ (rdP b).2.s < 256 ∧ (∀ x ∈ (rdP b).2.steps, x.word.size < 256) ∧ (∀ i ∈ (rdP b).2.out, 0 ≤ i ∧ i < 65536) ∧ (rdP b).2.steps.length < 65536 ∧ (rdP b).2.out.length < 65536 := by
  have six : ∀ v : Sv, ((6, v) : Int × Sv).1 = 0 → False := fun v h => by revert h; show (6 : Int) = 0 → False; omega
  have two : ∀ x y : UInt8, (two8 x y).toNat < 65536 := fun x y => by have := x.toNat_lt; have := y.toNat_lt; unfold two8; omega
  generalize hr : rdP b = r at *
  unfold rdP at hr
  split at hr
  case isFalse => subst hr; exact (six _ h).elim
  unfold rdBody at hr
  split at hr
  case h_2 => subst hr; exact (six _ h).elim
  rename_i p s n1 n0 r1 _
  split at hr
  case h_2 => subst hr; exact (six _ h).elim
  rename_i l r2 hl
  obtain ⟨l1, l2⟩ := rdSteps_len _ _ _ _ hl
  unfold rdTail at hr
  split at hr
  case h_2 => subst hr; exact (six _ h).elim
  rename_i m1 m0 r3
  split at hr
  case h_2 => subst hr; exact (six _ h).elim
  rename_i o r4 ho
  obtain ⟨o1, o2⟩ := rdOuts_len _ _ _ _ ho
  unfold rdEnd at hr
  split at hr
  case h_2 => subst hr; exact (six _ h).elim
  have hpl := p.toNat_lt
  have hsl := s.toNat_lt
  have t1 := two n1 n0
  have t2 := two m1 m0
  split at hr
  · subst hr
    exact ⟨by show (0 : Int) ≤ (p.toNat : Int); omega, by show (p.toNat : Int) < 256; omega, by show (0 : Int) ≤ (s.toNat : Int); omega, by show (s.toNat : Int) < 256; omega, fun x hx => (l2 x hx).2.2.2.2, o2, by show l.length < 65536; omega, by show o.length < 65536; omega⟩
  · subst hr
    exact absurd h (by show ¬ (160 : Int) = 0; omega)
theorem rdSteps_save (rest : List UInt8) : ∀ l : List Wk, (∀ x ∈ l, 0 ≤ x.kind ∧ x.kind < 256 ∧ 0 ≤ x.at_ ∧ x.at_ < 256 ∧ x.word.size < 256) → rdSteps l.length (l.flatMap stepB ++ rest) = some (l, rest)
  | [], _ => rfl
  | x :: l, h => by
    obtain ⟨h1, h2, h3, h4, h5⟩ := h x (List.mem_cons_self ..)
    have ih := rdSteps_save rest l (fun y hy => h y (List.mem_cons_of_mem _ hy))
    have e : (x :: l).flatMap stepB ++ rest = bI x.kind :: bI x.at_ :: bI (x.word.size : Int) :: (x.word.data.toList ++ (l.flatMap stepB ++ rest)) := by
      rw [List.flatMap_cons]; simp [stepB]
    have hn := bI_nat x.word.size h5
    have hl : x.word.data.toList.length = x.word.size := by rw [Array.length_toList]; rfl
    rw [e, List.length_cons]
    show (if (bI (x.word.size : Int)).toNat ≤ (x.word.data.toList ++ (l.flatMap stepB ++ rest)).length then _ else none) = _
    rw [if_pos (by rw [hn, List.length_append, hl]; omega), hn, ← hl, List.drop_left, List.take_left, ih, bI_val _ h1 h2, bI_val _ h3 h4]
    rfl
theorem rdOuts_save (rest : List UInt8) : ∀ l : List Int, (∀ x ∈ l, 0 ≤ x ∧ x < 65536) → rdOuts l.length (l.flatMap (fun i => putL i 2) ++ rest) = some (l, rest)
  | [], _ => rfl
  | x :: l, h => by
    obtain ⟨h1, h2⟩ := h x (List.mem_cons_self ..)
    have ih := rdOuts_save rest l (fun y hy => h y (List.mem_cons_of_mem _ hy))
    obtain ⟨e1, e2⟩ := two8_put x h1 h2
    have e : (x :: l).flatMap (fun i => putL i 2) ++ rest = bI (x / 256) :: bI x :: (l.flatMap (fun i => putL i 2) ++ rest) := by
      rw [List.flatMap_cons, e1]; simp
    rw [e, List.length_cons]
    show (rdOuts l.length (l.flatMap (fun i => putL i 2) ++ rest)).map _ = _
    rw [ih, e2]
    rfl
/-- what Save writes says what was saved -/
theorem rdP_save (p s : Int) (z : Pil) (hp : 0 ≤ p ∧ p < 256) (hs : 0 ≤ s ∧ s < 256) (hl : z.steps.length < 65536) (hx : ∀ x ∈ z.steps, 0 ≤ x.kind ∧ x.kind < 256 ∧ 0 ≤ x.at_ ∧ x.at_ < 256 ∧ x.word.size < 256) (hps : z.ps.length < 65536) :
    rdP (saveB p s z) = (0, ⟨p, s, z.steps, outL z.ps z.ps.length⟩) := by
  have hob := outL_bnd z.ps z.ps.length
  have hol := outL_len z.ps z.ps.length
  obtain ⟨q1, q2⟩ := two8_put (z.steps.length : Int) (by omega) (by omega)
  obtain ⟨q3, q4⟩ := two8_put ((outL z.ps z.ps.length).length : Int) (by omega) (by omega)
  have hsb := sumB_bnd (saveA p s z)
  obtain ⟨a, b, c, d, q5, q6⟩ := be32_put (sumB (saveA p s z)) hsb.1 hsb.2
  have e : saveB p s z = 80 :: 76 :: 1 :: bI p :: bI s :: bI ((z.steps.length : Int) / 256) :: bI (z.steps.length : Int) :: (z.steps.flatMap stepB ++ (bI (((outL z.ps z.ps.length).length : Int) / 256) :: bI ((outL z.ps z.ps.length).length : Int) :: ((outL z.ps z.ps.length).flatMap (fun i => putL i 2) ++ [a, b, c, d]))) := by
    unfold saveB
    rw [q5]
    unfold saveA saveO saveS
    rw [q1, q3, List.take_length, List.take_length]
    simp
  have hlen : (saveB p s z).take ((saveB p s z).length - 4) = saveA p s z := by
    unfold saveB
    rw [q5, List.length_append, show (saveA p s z).length + [a, b, c, d].length - 4 = (saveA p s z).length by simp, List.take_left]
  unfold rdP
  rw [if_pos (by rw [e]; rfl)]
  have ed : (saveB p s z).drop 3 = bI p :: bI s :: bI ((z.steps.length : Int) / 256) :: bI (z.steps.length : Int) :: (z.steps.flatMap stepB ++ (bI (((outL z.ps z.ps.length).length : Int) / 256) :: bI ((outL z.ps z.ps.length).length : Int) :: ((outL z.ps z.ps.length).flatMap (fun i => putL i 2) ++ [a, b, c, d]))) := by
    rw [e]; rfl
  rw [ed]
  unfold rdBody
  simp only
  rw [q2, Int.toNat_natCast, rdSteps_save _ _ hx]
  simp only
  unfold rdTail
  simp only
  rw [q4, Int.toNat_natCast, rdOuts_save _ _ (fun x h => ⟨(hob x h).1, by have := (hob x h).2; omega⟩)]
  simp only
  unfold rdEnd
  simp only
  rw [hlen, if_pos q6.symm, bI_val _ hp.1 hp.2, bI_val _ hs.1 hs.2]
/-- bytes of which one is changed say nothing -/
theorem rdP_odd (p s : Int) (z : Pil) (k : Nat) (y : UInt8) (hk : k < (saveB p s z).length) (hy : (saveB p s z)[k]? ≠ some y) : (rdP ((saveB p s z).set k y)).1 ≠ 0 := by
  intro h
  obtain ⟨e0, e1, e2, e3, h4, hd, hs⟩ := rdP_sum h
  have hsb := sumB_bnd (saveA p s z)
  obtain ⟨a, b, c, d, q5, q6⟩ := be32_put (sumB (saveA p s z)) hsb.1 hsb.2
  have hl : (saveB p s z).length = (saveA p s z).length + 4 := by unfold saveB; rw [q5, List.length_append]; rfl
  have hl4 : ((saveB p s z).set k y).length - 4 = (saveA p s z).length := by rw [List.length_set, hl]; omega
  rw [hl4] at hd hs
  have hb : saveB p s z = saveA p s z ++ [a, b, c, d] := by unfold saveB; rw [q5]
  generalize saveA p s z = A at *
  rw [hb] at hd hs hy hk
  by_cases hkA : k < A.length
  · rw [List.set_append_left _ _ hkA] at hd hs
    rw [List.drop_left' (by rw [List.length_set])] at hd
    rw [List.take_left' (by rw [List.length_set])] at hs
    rw [List.getElem?_append_left hkA] at hy
    injection hd with f0 hd
    injection hd with f1 hd
    injection hd with f2 hd
    injection hd with f3 hd
    subst f0 f1 f2 f3
    rw [q6] at hs
    exact sumB_set A k y hkA hy hs
  · rw [List.set_append_right _ _ (by omega)] at hd hs
    rw [List.drop_left] at hd
    rw [List.take_left] at hs
    rw [List.getElem?_append_right (by omega)] at hy
    have hk4 : k - A.length < 4 := by rw [List.length_append] at hk; simp at hk; omega
    have := be32_inj (q6.trans hs)
    rw [← this] at hd
    have hg : ([a, b, c, d].set (k - A.length) y)[k - A.length]? = some y := by
      rw [List.getElem?_set_self (by simpa using hk4)]
    rw [hd] at hg
    exact hy hg
end Go.Proofs.Ytaenafcecfdffaa
