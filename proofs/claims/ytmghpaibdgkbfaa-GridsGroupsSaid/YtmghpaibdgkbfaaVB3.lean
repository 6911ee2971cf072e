/-
  Contracts of chapter 6: matrices: products, determinants, inverses, images, bounds: the program's and the document's.
-/
import Derived.Test.YtmghpaibdgkbfaaVB1
import Derived.Test.YtmghpaibdgkbfaaVB2
namespace Go.Proofs.Ytmghpaibdgkbfaa
open Go.RowKit
abbrev cM (a b c d : Int) : List Value × TypeId := ([.int .i64 a, .int .i64 b, .int .i64 c, .int .i64 d], 40)
/-- a product of two numbers from bounds M and N whose product is at most 10^18 -/
theorem mbg {a b M N : Int} (ha : In6 M a) (hb : In6 N b) (h : M * N ≤ 1000000000000000000) : -1000000000000000000 ≤ a * b ∧ a * b ≤ 1000000000000000000 := mb M N 1000000000000000000 ha hb h
theorem has3 {w : World} {o1 o2 : Obj} {arr : Array Value} {t : TypeId} {cs : List Value} (h : arr = cs.toArray) : Has (((w.alloc o1).alloc o2).alloc (.cells arr t)) (w.heap.size + 1 + 1) t cs := by
  have := Has.new (w := (w.alloc o1).alloc o2) (t := t) h
  rwa [World.size_alloc, World.size_alloc] at this
set_option maxRecDepth 100000 in
set_option maxHeartbeats 1000000 in
theorem timesC (a b c d p q r s M N : Int) (w : World) (ha : In6 M a) (hb : In6 M b) (hc : In6 M c) (hd : In6 M d) (hp : In6 N p) (hq : In6 N q) (hr : In6 N r) (hs : In6 N s) (hMN : M * N ≤ 1000000000000000000) : Calls Try.prog 65 #[vM a b c d, vM p q r s] w fun e w' => e = .returned (vM (a * p + b * r) (a * q + b * s) (c * p + d * r) (c * q + d * s)) ∧ Below w.heap.size w w' := by
  have i1 := mbg ha hp hMN
  have i2 := mbg hb hr hMN
  have j1 := mbg ha hq hMN
  have j2 := mbg hb hs hMN
  have k1 := mbg hc hp hMN
  have k2 := mbg hd hr hMN
  have l1 := mbg hc hq hMN
  have l2 := mbg hd hs hMN
  have wi1 : IntKind.i64.wrap (a * p) = a * p := IntWalk.i64_in _ (by omega)
  have wi2 : IntKind.i64.wrap (b * r) = b * r := IntWalk.i64_in _ (by omega)
  have wi3 : IntKind.i64.wrap (a * p + b * r) = a * p + b * r := IntWalk.i64_in _ (by omega)
  have wj1 : IntKind.i64.wrap (a * q) = a * q := IntWalk.i64_in _ (by omega)
  have wj2 : IntKind.i64.wrap (b * s) = b * s := IntWalk.i64_in _ (by omega)
  have wj3 : IntKind.i64.wrap (a * q + b * s) = a * q + b * s := IntWalk.i64_in _ (by omega)
  have wk1 : IntKind.i64.wrap (c * p) = c * p := IntWalk.i64_in _ (by omega)
  have wk2 : IntKind.i64.wrap (d * r) = d * r := IntWalk.i64_in _ (by omega)
  have wk3 : IntKind.i64.wrap (c * p + d * r) = c * p + d * r := IntWalk.i64_in _ (by omega)
  have wl1 : IntKind.i64.wrap (c * q) = c * q := IntWalk.i64_in _ (by omega)
  have wl2 : IntKind.i64.wrap (d * s) = d * s := IntWalk.i64_in _ (by omega)
  have wl3 : IntKind.i64.wrap (c * q + d * s) = c * q + d * s := IntWalk.i64_in _ (by omega)
  clear ha hb hc hd hp hq hr hs hMN i1 i2 j1 j2 k1 k2 l1 l2
  go_enter Try.func65, Try.ntmps65
  go_wp2
  exact post_cell (g := w.heap.size + 1 + 1) (t := 40) (cs := [.int .i64 (a * p + b * r), .int .i64 (a * q + b * s), .int .i64 (c * p + d * r), .int .i64 (c * q + d * s)]) (has3 rfl) rfl rfl rfl Try.underlying40 (by kernel_rfl) ⟨rfl, by go_grown⟩
set_option maxRecDepth 100000 in
set_option maxHeartbeats 1000000 in
theorem rtimesC (a b c d p q r s M N : Int) (w : World) (ha : In6 M a) (hb : In6 M b) (hc : In6 M c) (hd : In6 M d) (hp : In6 N p) (hq : In6 N q) (hr : In6 N r) (hs : In6 N s) (hMN : M * N ≤ 1000000000000000000) : Calls Try.prog 45 #[vM a b c d, vM p q r s] w fun e w' => e = .returned (vM (a * p + b * r) (a * q + b * s) (c * p + d * r) (c * q + d * s)) ∧ Below w.heap.size w w' := by
  have i1 := mbg ha hp hMN
  have i2 := mbg hb hr hMN
  have j1 := mbg ha hq hMN
  have j2 := mbg hb hs hMN
  have k1 := mbg hc hp hMN
  have k2 := mbg hd hr hMN
  have l1 := mbg hc hq hMN
  have l2 := mbg hd hs hMN
  have wi1 : IntKind.i64.wrap (a * p) = a * p := IntWalk.i64_in _ (by omega)
  have wi2 : IntKind.i64.wrap (b * r) = b * r := IntWalk.i64_in _ (by omega)
  have wi3 : IntKind.i64.wrap (a * p + b * r) = a * p + b * r := IntWalk.i64_in _ (by omega)
  have wj1 : IntKind.i64.wrap (a * q) = a * q := IntWalk.i64_in _ (by omega)
  have wj2 : IntKind.i64.wrap (b * s) = b * s := IntWalk.i64_in _ (by omega)
  have wj3 : IntKind.i64.wrap (a * q + b * s) = a * q + b * s := IntWalk.i64_in _ (by omega)
  have wk1 : IntKind.i64.wrap (c * p) = c * p := IntWalk.i64_in _ (by omega)
  have wk2 : IntKind.i64.wrap (d * r) = d * r := IntWalk.i64_in _ (by omega)
  have wk3 : IntKind.i64.wrap (c * p + d * r) = c * p + d * r := IntWalk.i64_in _ (by omega)
  have wl1 : IntKind.i64.wrap (c * q) = c * q := IntWalk.i64_in _ (by omega)
  have wl2 : IntKind.i64.wrap (d * s) = d * s := IntWalk.i64_in _ (by omega)
  have wl3 : IntKind.i64.wrap (c * q + d * s) = c * q + d * s := IntWalk.i64_in _ (by omega)
  clear ha hb hc hd hp hq hr hs hMN i1 i2 j1 j2 k1 k2 l1 l2
  go_enter Try.func45, Try.ntmps45
  go_wp2
  exact post_cell (g := w.heap.size + 1 + 1) (t := 40) (cs := [.int .i64 (a * p + b * r), .int .i64 (a * q + b * s), .int .i64 (c * p + d * r), .int .i64 (c * q + d * s)]) (has3 rfl) rfl rfl rfl Try.underlying40 (by kernel_rfl) ⟨rfl, by go_grown⟩
set_option maxRecDepth 100000 in
set_option maxHeartbeats 400000 in
theorem mdetC (a b c d M : Int) (w : World) (ha : In6 M a) (hb : In6 M b) (hc : In6 M c) (hd : In6 M d) (hM : M * M ≤ 1000000000000000000) : Calls Try.prog 81 #[vM a b c d] w fun e w' => e = .returned (.int .i64 (a * d - b * c)) ∧ Below w.heap.size w w' := by
  have m1 := mbg ha hd hM
  have m2 := mbg hb hc hM
  have i1 : IntKind.i64.wrap (a * d) = a * d := IntWalk.i64_in _ (by omega)
  have i2 : IntKind.i64.wrap (b * c) = b * c := IntWalk.i64_in _ (by omega)
  have i3 : IntKind.i64.wrap (a * d - b * c) = a * d - b * c := IntWalk.i64_in _ (by omega)
  go_enter Try.func81, Try.ntmps81
  go_wp2
  go_ret
  exact ⟨rfl, by go_grown⟩
set_option maxRecDepth 100000 in
set_option maxHeartbeats 1000000 in
theorem inverseC (a b c d M : Int) (w : World) (ha : In6 M a) (hb : In6 M b) (hc : In6 M c) (hd : In6 M d) (hM : M ≤ 1000000000) (hD : a * d - b * c = 1 ∨ a * d - b * c = -1) : Calls Try.prog 70 #[vM a b c d] w fun e w' => e = .returned (vM ((a * d - b * c) * d) (-(a * d - b * c) * b) (-(a * d - b * c) * c) ((a * d - b * c) * a)) ∧ Below w.heap.size w w' := by
  have hM0 : 0 ≤ M := by omega
  have hMM : M * M ≤ 1000000000000000000 := by
    have := Int.mul_le_mul hM hM hM0 (by decide)
    omega
  have CD := Lib.hid (fun W => mdetC a b c d M W ha hb hc hd hMM)
  have F0 := Lib.hid (fun (W : World) (hb : Below (w.heap.size + 2) (boxW w [cM a b c d, cM 0 0 0 0]) W) => fun i x h => box_has [cM a b c d, cM 0 0 0 0] hb (i := i) (c := x) h)
  have S0 : Hid ((boxW w [cM a b c d, cM 0 0 0 0]).heap.size = w.heap.size + 2) := boxW_size [cM a b c d, cM 0 0 0 0] w
  have B0 := Lib.hid (boxW_below [cM a b c d, cM 0 0 0 0] w)
  obtain ⟨E, hE⟩ : ∃ E, E = a * d - b * c := ⟨_, rfl⟩
  rw [← hE] at hD CD ⊢
  clear hE hMM hM0
  have i0 : IntKind.i64.wrap (-E) = -E := IntWalk.i64_in _ (by omega)
  have i1 : IntKind.i64.wrap (E * d) = E * d := IntWalk.i64_in _ (by rcases hD with h | h <;> rw [h] <;> omega)
  have i2 : IntKind.i64.wrap (-E * b) = -E * b := IntWalk.i64_in _ (by rcases hD with h | h <;> rw [h] <;> omega)
  have i3 : IntKind.i64.wrap (-E * c) = -E * c := IntWalk.i64_in _ (by rcases hD with h | h <;> rw [h] <;> omega)
  have i4 : IntKind.i64.wrap (E * a) = E * a := IntWalk.i64_in _ (by rcases hD with h | h <;> rw [h] <;> omega)
  clear ha hb hc hd hM hD
  go_enter Try.func70, Try.ntmps70
  go_wp2_with fail
  refine (CD.out _).mono ?_
  rintro e w1 ⟨rfl, hb1⟩
  have B1 := Lib.hid (bvia B0.out hb1)
  have hb1' : Below (w.heap.size + 2) (boxW w [cM a b c d, cM 0 0 0 0]) w1 := by rw [← S0.out]; exact hb1
  have g0 := F0.out w1 hb1' 0 _ rfl
  have g1 := F0.out w1 hb1' 1 _ rfl
  have x0 : w1.cell? ⟨w.heap.size, 0, none⟩ = some (.int .i64 a) := g0.cell 0
  have x1 : w1.cell? ⟨w.heap.size, 1, none⟩ = some (.int .i64 b) := g0.cell 1
  have x2 : w1.cell? ⟨w.heap.size, 2, none⟩ = some (.int .i64 c) := g0.cell 2
  have x3 : w1.cell? ⟨w.heap.size, 3, none⟩ = some (.int .i64 d) := g0.cell 3
  have y0 : w1.cell? ⟨w.heap.size + 1, 0, none⟩ = some (.int .i64 0) := g1.cell 0
  have y1 : w1.cell? ⟨w.heap.size + 1, 1, none⟩ = some (.int .i64 0) := g1.cell 1
  have y2 : w1.cell? ⟨w.heap.size + 1, 2, none⟩ = some (.int .i64 0) := g1.cell 2
  have y3 : w1.cell? ⟨w.heap.size + 1, 3, none⟩ = some (.int .i64 0) := g1.cell 3
  have f0 : w1.frozen? ⟨w.heap.size + 1, 0, none⟩ = false := g1.free 0
  have f1 : w1.frozen? ⟨w.heap.size + 1, 1, none⟩ = false := g1.free 1
  have f2 : w1.frozen? ⟨w.heap.size + 1, 2, none⟩ = false := g1.free 2
  have f3 : w1.frozen? ⟨w.heap.size + 1, 3, none⟩ = false := g1.free 3
  have q1 : w.heap.size + 1 < w1.heap.size := g1.lt
  have G1 : Hid (Has w1 (w.heap.size + 1) 40 [.int .i64 0, .int .i64 0, .int .i64 0, .int .i64 0]) := g1
  clear hb1 hb1' g0 g1 F0 S0 B0 CD
  go_wp2
  refine post_cell (g := w.heap.size + 1) (t := 40) (cs := [.int .i64 (E * d), .int .i64 (-E * b), .int .i64 (-E * c), .int .i64 (E * a)]) ?_ rfl rfl rfl Try.underlying40 (by kernel_rfl) ⟨rfl, ?_⟩
  · exact (((G1.out.set 0 _).set 1 _).set 2 _).set 3 _
  · exact (((B1.out.setCell (p := ⟨w.heap.size + 1, 0, none⟩) (Nat.le_succ _) _).setCell (p := ⟨w.heap.size + 1, 1, none⟩) (Nat.le_succ _) _).setCell (p := ⟨w.heap.size + 1, 2, none⟩) (Nat.le_succ _) _).setCell (p := ⟨w.heap.size + 1, 3, none⟩) (Nat.le_succ _) _
set_option maxRecDepth 100000 in
set_option maxHeartbeats 1000000 in
theorem rimageC (a b c d x y M N : Int) (w : World) (ha : In6 M a) (hb : In6 M b) (hc : In6 M c) (hd : In6 M d) (hx : In6 N x) (hy : In6 N y) (hMN : M * N ≤ 1000000000000000000) : Calls Try.prog 82 #[vM a b c d, vP x y] w fun e w' => e = .returned (vP (a * x + b * y) (c * x + d * y)) ∧ Below w.heap.size w w' := by
  have m1 := mbg ha hx hMN
  have m2 := mbg hb hy hMN
  have m3 := mbg hc hx hMN
  have m4 := mbg hd hy hMN
  have i1 : IntKind.i64.wrap (a * x) = a * x := IntWalk.i64_in _ (by omega)
  have i2 : IntKind.i64.wrap (b * y) = b * y := IntWalk.i64_in _ (by omega)
  have i3 : IntKind.i64.wrap (c * x) = c * x := IntWalk.i64_in _ (by omega)
  have i4 : IntKind.i64.wrap (d * y) = d * y := IntWalk.i64_in _ (by omega)
  have i5 : IntKind.i64.wrap (a * x + b * y) = a * x + b * y := IntWalk.i64_in _ (by omega)
  have i6 : IntKind.i64.wrap (c * x + d * y) = c * x + d * y := IntWalk.i64_in _ (by omega)
  clear ha hb hc hd hx hy hMN m1 m2 m3 m4
  go_enter Try.func82, Try.ntmps82
  go_wp2
  exact post_cell (g := w.heap.size + 1 + 1) (t := 25) (cs := [.int .i64 (a * x + b * y), .int .i64 (c * x + d * y)]) (has3 rfl) rfl rfl rfl Try.underlying25 (by kernel_rfl) ⟨rfl, by go_grown⟩
set_option maxRecDepth 100000 in
set_option maxHeartbeats 1000000 in
theorem imageC (a b c d u v x y M N K : Int) (w : World) (ha : In6 M a) (hb : In6 M b) (hc : In6 M c) (hd : In6 M d) (hu : In6 K u) (hv : In6 K v) (hx : In6 N x) (hy : In6 N y) (hMN : M * N ≤ 1000000000000000000) (hK : K ≤ 1000000000000000000) : Calls Try.prog 76 #[.agg #[.int .i64 a, .int .i64 b, .int .i64 c, .int .i64 d, .int .i64 u, .int .i64 v], vP x y] w fun e w' => e = .returned (vP (a * x + b * y + u) (c * x + d * y + v)) ∧ Below w.heap.size w w' := by
  have m1 := mbg ha hx hMN
  have m2 := mbg hb hy hMN
  have m3 := mbg hc hx hMN
  have m4 := mbg hd hy hMN
  have i1 : IntKind.i64.wrap (a * x) = a * x := IntWalk.i64_in _ (by omega)
  have i2 : IntKind.i64.wrap (b * y) = b * y := IntWalk.i64_in _ (by omega)
  have i3 : IntKind.i64.wrap (c * x) = c * x := IntWalk.i64_in _ (by omega)
  have i4 : IntKind.i64.wrap (d * y) = d * y := IntWalk.i64_in _ (by omega)
  have i5 : IntKind.i64.wrap (a * x + b * y) = a * x + b * y := IntWalk.i64_in _ (by omega)
  have i6 : IntKind.i64.wrap (c * x + d * y) = c * x + d * y := IntWalk.i64_in _ (by omega)
  have i7 : IntKind.i64.wrap (a * x + b * y + u) = a * x + b * y + u := IntWalk.i64_in _ (by omega)
  have i8 : IntKind.i64.wrap (c * x + d * y + v) = c * x + d * y + v := IntWalk.i64_in _ (by omega)
  clear ha hb hc hd hx hy hMN m1 m2 m3 m4 hu hv hK
  go_enter Try.func76, Try.ntmps76
  go_wp2
  exact post_cell (g := w.heap.size + 1 + 1) (t := 25) (cs := [.int .i64 (a * x + b * y + u), .int .i64 (c * x + d * y + v)]) (has3 rfl) rfl rfl rfl Try.underlying25 (by kernel_rfl) ⟨rfl, by go_grown⟩
end Go.Proofs.Ytmghpaibdgkbfaa
/-
  A region that draws its order, by an invariant over the operations that have come up: each operation is walked once, whatever has come up before it.
-/
namespace Go.Proofs.Ytmghpaibdgkbfaa
open Go.RowKit
section
variable {P : Program} {ops : Array Oper} {Q : Exit → Act → World → Prop}
/-- every operation waits for earlier ones alone -/
def earlier (ops : List Oper) : Bool := (List.range ops.length).all (fun i => match ops[i]? with | none => true | some o => o.after.toList.all (fun e => !Region.binds .any e || decide (e.on < i)))
theorem earlier_ok (h : earlier ops.toList = true) : ∀ (j : Nat) (o : Oper), ops[j]? = some o → ∀ e ∈ o.after, Region.binds .any e = true → e.on < j := fun j o ho e he hb => by
  unfold earlier at h
  have hj : j < ops.toList.length := by
    rw [Array.length_toList]
    exact (Array.getElem?_eq_some_iff.1 ho).1
  have h1 := List.all_eq_true.1 h j (List.mem_range.2 hj)
  have ho' : ops.toList[j]? = some o := by rw [Array.getElem?_toList]; exact ho
  rw [ho'] at h1
  have h2 := List.all_eq_true.1 h1 e (by rw [← Array.mem_def]; exact he)
  simpa [hb] using h2
theorem all_up (hE : earlier ops.toList = true) {l : Array Bool} (hz : l.size = ops.size) (hr : Region.ready .any ops l = []) : ∀ j, j < ops.size → l.getD j false = true := by
  intro j
  induction j using Nat.strongRecOn with
  | ind j ih =>
    intro hj
    refine Classical.byContradiction fun hn => ?_
    have ho : ops[j]? = some ops[j] := Array.getElem?_eq_getElem hj
    have : j ∈ Region.ready .any ops l := mem_ready.2 ⟨by
      cases hb : l.getD j true with
      | false => rfl
      | true =>
        exfalso
        apply hn
        have hjl : j < l.size := by omega
        rw [Array.getD_eq_getD_getElem?, Array.getElem?_eq_getElem hjl] at hb ⊢
        exact hb, ops[j], ho, fun e he hb => ih e.on (earlier_ok hE j _ ho e he hb) (by have := earlier_ok hE j _ ho e he hb; omega)⟩
    rw [hr] at this
    cases this
theorem count_set {l : Array Bool} {i : Nat} (h : l.getD i true = false) : (l.setIfInBounds i true).toList.count false + 1 = l.toList.count false := by
  have hi : i < l.size := by
    rcases Nat.lt_or_ge i l.size with h' | h'
    · exact h'
    · rw [Array.getD_eq_getD_getElem?, Array.getElem?_eq_none h'] at h; cases h
  have hv : l.toList[i]'(by rw [Array.length_toList]; exact hi) = false := by
    rw [Array.getD_eq_getD_getElem?, Array.getElem?_eq_getElem hi] at h
    simpa using h
  rw [Array.toList_setIfInBounds, List.count_set (by rw [Array.length_toList]; exact hi), hv]
  have hp : 0 < l.toList.count false := List.count_pos_iff.2 (by rw [← hv]; exact List.getElem_mem _)
  rw [if_pos (show (false == false) = true from rfl), if_neg (show ¬ (true == false) = true by decide)]
  omega
/-- the law: I holds of what has come up, the slots and the world -/
theorem wpAny_inv (I : Array Bool → Act → World → Prop) (hE : earlier ops.toList = true) (hz : ∀ l a w, I l a w → l.size = ops.size)
    (hs : ∀ l a w i, I l a w → i ∈ Region.ready .any ops l → wpOp P ops Q i (fun a' w' => I (l.setIfInBounds i true) a' w') a w)
    (he : ∀ l a w, I l a w → (∀ j, j < ops.size → l.getD j false = true) → Q .normal a w) :
    ∀ (fuel : Nat) (l : Array Bool) (a : Act) (w : World), I l a w → l.toList.count false ≤ fuel → wpAny P .any ops Q fuel l a w
  | 0, l, a, w, hI, hc => by
    have hr : Region.ready .any ops l = [] := by
      refine List.eq_nil_iff_forall_not_mem.2 fun j hj => ?_
      have := count_set (mem_ready.1 hj).1
      omega
    exact ⟨hr, he l a w hI (all_up hE (hz l a w hI) hr)⟩
  | fuel + 1, l, a, w, hI, hc => by
    refine ⟨fun hr => he l a w hI (all_up hE (hz l a w hI) hr), fun i hi => ?_⟩
    refine wpOp_mono (fun a' w' h => ?_) (hs l a w i hI hi)
    refine wpAny_inv I hE hz hs he fuel _ a' w' h ?_
    have := count_set (mem_ready.1 hi).1
    omega
theorem wp_region_inv {id : Nat} {a : Act} {w : World} (I : Array Bool → Act → World → Prop) (hm : P.follows .mixedOrders = true) (hE : earlier ops.toList = true)
    (h0 : I (Array.replicate ops.size false) a w.drew) (hz : ∀ l a w, I l a w → l.size = ops.size)
    (hs : ∀ l a w i, I l a w → i ∈ Region.ready .any ops l → wpOp P ops Q i (fun a' w' => I (l.setIfInBounds i true) a' w') a w)
    (he : ∀ l a w, I l a w → (∀ j, j < ops.size → l.getD j false = true) → Q .normal a w) : (Code.region id ops true).wp P Q a w :=
  wp_region_any hm (wpAny_inv I hE hz hs he ops.size _ a w.drew h0 (by rw [Array.toList_replicate, List.count_replicate_self]; exact Nat.le_refl _))
/-- what is ready has not come up, and all that it waits for has -/
theorem ready_of {l : Array Bool} {i : Nat} (h : i ∈ Region.ready .any ops l) : l.getD i true = false ∧ ∃ o, ops[i]? = some o ∧ ∀ e ∈ o.after, Region.binds .any e = true → l.getD e.on false = true := mem_ready.1 h
end
end Go.Proofs.Ytmghpaibdgkbfaa
