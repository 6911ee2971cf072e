/-
  Contract of chapter 16: the pillow's method Back.
-/
import Derived.Test.YtaenafcecfdffaaVB10
import Derived.Test.YtaenafcecfdffaaVB11
namespace Go.Proofs.Ytaenafcecfdffaa
open Go.RowKit
attribute [local go_sem] Oper.semAt_some
theorem own_prefix {w : World} {base : Nat} {e : TypeId} {size n c m : Nat} {A : Option Addr} {xs : List Value} (h : w.ownsRow base e size (.slice A n c) n xs) (hm : m ≤ n) : w.ownsRow base e size (.slice A m c) m (xs.take (m * size)) := by
  refine ⟨?_, ?_⟩
  · rw [List.length_take, h.1]
    have := Nat.mul_le_mul_right size hm
    omega
  · rcases h.2 with ⟨h1, h2⟩ | ⟨g, cap, cur, h1, h2, h3, h4, h5, h6, h7⟩
    · left
      injection h1 with h1 h8 h9
      subst h1 h9 h8
      obtain rfl : m = 0 := by omega
      exact ⟨rfl, rfl⟩
    · right
      injection h1 with h1 _ h8
      subst h1 h8
      refine ⟨g, c, cur, rfl, h2, h3, by omega, h5, h6, ?_⟩
      rw [← h7, List.take_take]
      congr 1
      have := Nat.mul_le_mul_right size hm
      omega
/-- a row is shortened, and laid back into its field -/
theorem RowsH.cut {W : World} {B g : Nat} {T : TypeId} {hd : List Value} {rs : List RowD} (h : RowsH W B g T hd rs) {i : Nat} {r : RowD} (hi : rs[i]? = some r) {A : Option Addr} {c m : Nat} (hv : r.v = .slice A r.n c) (hm : m ≤ r.n) (j : Nat) (hj : j = hd.length + i) :
    RowsH (W.setCell ⟨g, j, none⟩ (.slice A m c)) B g T hd (rs.set i ⟨r.e, r.size, .slice A m c, m, r.xs.take (m * r.size)⟩) := by
  have ho := h.o i r hi
  rw [hv] at ho
  exact RowsH.grow h hi ⟨rfl, rfl, rfl, Nat.le_refl _, fun _ _ _ => rfl⟩ (own_prefix ho hm) j hj
/-- a row's cells are written anew -/
theorem RowsH.renew {W W' : World} {B g lb : Nat} {T : TypeId} {hd : List Value} {rs : List RowD} (h : RowsH W B g T hd rs) {i : Nat} {r : RowD} (hi : rs[i]? = some r) (hb : r.v.ownBlock = some lb) (k : KeepB (fun q => q = lb) W W') {xs' : List Value} (o' : W'.ownsRow B r.e r.size r.v r.n xs') :
    RowsH W' B g T hd (rs.set i ⟨r.e, r.size, r.v, r.n, xs'⟩) := by
  have hlt : i < rs.length := lt_of_get hi
  refine ⟨?_, ?_, ?_, ?_, h.b, Nat.le_trans h.z k.size⟩
  · rw [List.map_set]
    have : (rs.map RowD.v).set i r.v = rs.map RowD.v := by
      apply List.ext_getElem?
      intro m
      rw [List.getElem?_set]
      by_cases e : i = m
      · subst e; rw [if_pos rfl, if_pos (by simpa using hlt), List.getElem?_map, hi]; rfl
      · rw [if_neg e]
    rw [this]
    exact k.has h.c (fun e => h.ne hi (by rw [hb, e]))
  · intro m s hm
    rw [List.getElem?_set] at hm
    by_cases e : i = m
    · subst e
      rw [if_pos rfl, if_pos hlt] at hm
      injection hm with hm
      subst hm
      exact o'
    · rw [if_neg e] at hm
      refine k.own (h.o m s hm) (fun q hq e2 => ?_)
      subst e2
      exact h.apart hi hm e hb hq
  · intro a b r1 s1 ha hb2 hab
    rw [List.getElem?_set] at ha hb2
    by_cases e : i = a
    · subst e
      rw [if_pos rfl, if_pos hlt] at ha
      injection ha with ha
      rw [if_neg hab] at hb2
      subst ha
      exact h.d i b r s1 hi hb2 hab
    · rw [if_neg e] at ha
      by_cases e2 : i = b
      · subst e2
        rw [if_pos rfl, if_pos hlt] at hb2
        injection hb2 with hb2
        subst hb2
        exact h.d a i r1 r ha hi hab
      · rw [if_neg e2] at hb2
        exact h.d a b r1 s1 ha hb2 hab
  · intro m s hm
    rw [List.getElem?_set] at hm
    by_cases e : i = m
    · subst e
      rw [if_pos rfl, if_pos hlt] at hm
      injection hm with hm
      subst hm
      exact h.t i r hi
    · rw [if_neg e] at hm
      exact h.t m s hm
theorem cell_far {w : World} {b b' i j : Nat} {u v : Value} (h : w.cell? ⟨b, i, none⟩ = some v) (hb : b ≠ b') : (w.setCell ⟨b', j, none⟩ u).cell? ⟨b, i, none⟩ = some v := (cell_same (a := ⟨b, i, none⟩) (Below.heap_setCell w _ u b hb)).trans h
theorem slice_to (T : TypeId) (size : Nat) (hT : Try.prog.underlying T = some (.slice (Try.prog.elem T))) (hs : ∀ W, (sizeOf (Try.prog.elem T)).run Try.prog W = .ok size W) (A : Option Addr) (n c m : Nat) (hm : m ≤ c) (W : World) : (Instr.slice T (.slice A n c) none (some (.int .i64 (m : Int))) none).run Try.prog W = .ok (.slice A m c) W := by
  rw [run_slice_h (P := Try.prog) (w := W) _ _ _ _ hT .i64 (m : Int) (by omega) (by omega), hs]
  simp [sliced]
  intro _
  cases A <;> simp [Addr.add_zero']
theorem slice_from (A : Option Addr) (n c l : Nat) (hl : l ≤ n) (hnc : n ≤ c) : ∃ A' c', (∀ W, (Instr.slice 40 (.slice A n c) (some (.int .i64 (l : Int))) none none).run Try.prog W = .ok (.slice A' (n - l) c') W) ∧ (0 < n - l → A' = A.map (fun x => x.add (l * 4))) := by
  by_cases e : c - l = 0
  · refine ⟨A, 0, fun W => ?_, fun h => by omega⟩
    rw [run_slice_l (P := Try.prog) (w := W) _ _ _ _ (by kernel_rfl) .i64 (l : Int) (by omega) (by omega)]
    have hs : (sizeOf (Try.prog.elem 40)).run Try.prog W = .ok 4 W := by kernel_rfl
    rw [hs]
    simp [sliced, e]
    intro h
    exact absurd (show c = l by omega) h
  · refine ⟨A.map (fun x => x.add (l * 4)), c - l, fun W => ?_, fun _ => rfl⟩
    rw [run_slice_l (P := Try.prog) (w := W) _ _ _ _ (by kernel_rfl) .i64 (l : Int) (by omega) (by omega)]
    have hs : (sizeOf (Try.prog.elem 40)).run Try.prog W = .ok 4 W := by kernel_rfl
    rw [hs]
    simp [sliced]
    intro h
    exact absurd h (by omega)
def Pil.back (z : Pil) (k wn xn pn : Nat) (hands : Int) : Pil :=
  { hands := hands, steps := z.steps.take k, marks := z.marks.take k, works := z.works.take wn, l := (z.xs.drop xn).reverse.foldl crLine z.l, xs := z.xs.take xn, ps := z.ps.take pn }
theorem pnsC_take (l : List Pn) (t : Nat) : (pnsC l).take (t * 6) = pnsC (l.take t) := by
  induction l generalizing t with
  | nil => simp [pnsC]
  | cons x l ih =>
    cases t with
    | zero => rw [Nat.zero_mul, List.take_zero, List.take_zero]; rfl
    | succ t =>
      have e : (pnC x).length = 6 := rfl
      rw [pnsC_cons, List.take_succ_cons, pnsC_cons, List.take_append, e, show (t + 1) * 6 - 6 = t * 6 by omega, ih, List.take_of_length_le (by rw [e]; omega)]
theorem qsC_cons (x : Q4) (l : List Q4) : qsC (x :: l) = [.int .i64 x.a, .int .i64 x.b, .int .i64 x.c, .int .i64 x.d] ++ qsC l := rfl
theorem qsC_take (l : List Q4) (t : Nat) : (qsC l).take (t * 4) = qsC (l.take t) := by
  induction l generalizing t with
  | nil => simp [qsC]
  | cons x l ih =>
    cases t with
    | zero => rw [Nat.zero_mul, List.take_zero, List.take_zero]; rfl
    | succ t =>
      rw [qsC_cons, List.take_succ_cons, qsC_cons, List.take_append, show (t + 1) * 4 - [Value.int .i64 x.a, .int .i64 x.b, .int .i64 x.c, .int .i64 x.d].length = t * 4 from (by show (t + 1) * 4 - 4 = _; omega), ih, List.take_of_length_le (by show 4 ≤ _; omega)]
/-- the line between two rounds of Back -/
def lineB (l : List Int) (pre : List Bk) : List Int := pre.foldl (fun l x => crLine l x.2) l
theorem lineB_app (l : List Int) (pre : List Bk) (x : Bk) : lineB l (pre ++ [x]) = crLine (lineB l pre) x.2 := by unfold lineB; rw [List.foldl_append]; rfl
theorem lineB_len (l : List Int) : ∀ pre : List Bk, (lineB l pre).length = l.length := by
  intro pre
  induction pre generalizing l with
  | nil => rfl
  | cons x r ih => show (lineB (crLine l x.2) r).length = _; rw [ih, crLine_len]
theorem lineB_all (l : List Int) (qs : List Q4) : lineB l (bkTo qs qs.length) = qs.reverse.foldl crLine l := by
  have h : (bkTo qs qs.length).map (·.2) = qs.reverse := by
    apply List.ext_getElem?
    intro i
    unfold bkTo
    rw [List.map_map, List.getElem?_map]
    by_cases hi : i < qs.length
    · rw [List.getElem?_range hi, List.getElem?_reverse hi]
      show some (qs.getD (qs.length - 1 - i) _) = _
      obtain ⟨q, hq⟩ := get_of_lt (l := qs) (k := qs.length - 1 - i) (by omega)
      rw [List.getD_eq_getElem?_getD, hq]; rfl
    · rw [List.getElem?_eq_none (by simpa using hi), List.getElem?_eq_none (by simpa using hi)]; rfl
  rw [← h]
  unfold lineB
  rw [List.foldl_map]
theorem postB_mark1 {P : Program} {fn : Func} {R : Ending → World → Prop} {a : Act} {w : World} {t : Tmp} {D : Nat} {x : Value} (hres : fn.results = #[.tmp t])
    (hx : a.tmps.getD t undef = x) (hd : a.defers = [{ target := .collected D, args := #[] }]) (hD : w.heap[D]? = some (.deferred (some [])))
    (hR : R (.returned x) (w.putObj D (.deferred none))) : bodyPostM Fence.wide 0 P fn R .ret a w := by
  show LeavesInM Fence.wide 0 P fn a.tmps R a.defers .returning w
  rw [hd]
  refine ⟨by simp, .inl ⟨_, _, rfl, run_takeDeferred hD, ?_⟩⟩
  exact ⟨x, by rw [results_tmp hres, hx], hR⟩
set_option maxRecDepth 100000 in
theorem backward49 (A : Option Addr) (n c : Nat) (W : World) : Calls Try.prog 49 #[.slice A n c] W fun e w' => e = .returned (.func (.func 70) #[] #[.pointer (some ⟨W.heap.size, 0, none⟩)]) ∧ Has w' W.heap.size 40 [.slice A n c] ∧ Below W.heap.size W w' := by
  have hmf : ∀ (fn : Fn) (first cap : Array Value) (w : World), (Instr.makeFunc fn first cap).run Try.prog w = .ok (.func fn first cap) w := fun _ _ _ _ => rfl
  go_enter Try.func49, Try.ntmps49
  go_wp2
  go_ret
  exact ⟨rfl, Has.new rfl, by go_grown⟩
theorem own_cellsB {W : World} {base : Nat} {e : TypeId} {size n : Nat} {v : Value} {xs : List Value} (h : W.ownsRow base e size v n xs) {g : Nat} (hg : v.ownBlock = some g) : ∃ cs, W.heap[g]? = some (.cells cs e) := by
  rcases h.2 with ⟨he, _⟩ | ⟨g', cap, cur, he, _, hh, _⟩
  · rw [he] at hg; cases hg
  · rw [he] at hg
    have : g' = g := by simpa [Value.ownBlock] using hg
    subst this
    exact ⟨cur, hh⟩
/-- what holds between two rounds of Back -/
structure BkI (lb n c B : Nat) (l : List Int) (w : World) (pre : List Bk) (W : World) : Prop where
  line : W.ownsRow B 3 1 (.slice (some ⟨lb, 0, none⟩) n c) n ((lineB l pre).map vInt)
  keep : KeepB (fun r => r = lb) w W
theorem bkI_own {lb n c B : Nat} {l : List Int} {w : World} (hlb : lb < w.heap.size) : OwnFrom w.heap.size (fun (pre : List Bk) W => BkI lb n c B l w pre W) := fun pre W W' row hs hg hr => by
  obtain ⟨h1, h2⟩ := hs
  have hne : ∀ r, r < w.heap.size → some r ≠ row := fun r hr2 e => by have := (hr r e.symm).1; omega
  refine ⟨own_same h1 (fun r hr2 => ?_), ?_⟩
  · obtain rfl : lb = r := by injection hr2
    exact hg.block lb (h1.lt lb rfl).2 (hne lb hlb)
  · exact ⟨hg.os.trans h2.os, hg.tape.trans h2.tape, hg.output.trans h2.output, Nat.le_trans h2.size hg.size, fun r hr2 hn => (hg.block r (Nat.lt_of_lt_of_le hr2 h2.size) (hne r hr2)).trans (h2.block r hr2 hn)⟩
set_option maxRecDepth 100000 in
set_option maxHeartbeats 8000000 in
theorem backC (B g : Nat) (p s : Int) (z : Pil) (S M V L X P : Value) (W : World) (h : PilH W B g p s z S M V L X P) (hp : 0 < p) (k wn xn pn : Nat) (hands : Int) (hk : z.steps.length = k + 1) (hm : z.marks.length = k + 1) (hk2 : k ≤ 1000) (hmk : z.marks[k]? = some ⟨hands, (wn : Int), (xn : Int), (pn : Int)⟩)
    (hwn : wn ≤ z.works.length) (hxn : xn ≤ z.xs.length) (hpn : pn ≤ z.ps.length) (hx : ∀ q ∈ z.xs, ∃ t : Nat, q.b = (t : Int) ∧ t + 1 < z.l.length) (hb2 : z.xs.length ≤ 1000000) (hb4 : z.l.length ≤ 1000) (hl0 : 0 < z.l.length) :
    Calls Try.prog 23 #[.pointer (some ⟨g, 0, none⟩)] W fun e w' => e = .returned (.int .i64 0) ∧ ∃ S' M' V' L' X' P', PilH w' B g p s (z.back k wn xn pn hands) S' M' V' L' X' P' ∧ KeepB (blkV g [S, M, V, L, X, P]) W w' := by
  have o0 : W.ownsRow B 35 3 S z.steps.length (wksCells z.steps) := h.o 0 _ rfl
  have o1 : W.ownsRow B 83 4 M z.marks.length (qsC z.marks) := h.o 1 _ rfl
  have o2 : W.ownsRow B 86 3 V z.works.length (wksCells z.works) := h.o 2 _ rfl
  have o3 : W.ownsRow B 3 1 L z.l.length (z.l.map vInt) := h.o 3 _ rfl
  have o4 : W.ownsRow B 47 4 X z.xs.length (qsC z.xs) := h.o 4 _ rfl
  have o5 : W.ownsRow B 91 6 P z.ps.length (pnsC z.ps) := h.o 5 _ rfl
  obtain ⟨SA, sc, rfl⟩ := own_form o0
  obtain ⟨MA, mc, rfl⟩ := own_form o1
  obtain ⟨VA, vc, rfl⟩ := own_form o2
  obtain ⟨LA, lc, rfl⟩ := own_form o3
  obtain ⟨XA, xc, rfl⟩ := own_form o4
  obtain ⟨PA, pc, rfl⟩ := own_form o5
  have H1 := Lib.hid (RowsH.below h ((Below.refl W.heap.size W).alloc (Nat.le_refl _) (.cells #[.pointer (some ⟨g, 0, none⟩)] 30)))
  have hg := h.c.lt
  have c0 := RowsH.cell H1.out 0
  have CM := Lib.hid (madeC g p _ hp c0)
  have q0 := H1.out.c.lt
  refine (callsIn_wide (n := 0)).1 (callsIn_of_wp_marks Try.func23 rfl trivial ?_)
  simp only [Try.ntmps23, List.size_toArray, List.length_cons, List.length_nil, Nat.reduceAdd, Nat.reduceSub, Array.replicate_succ, Array.replicate_zero, List.push_toArray, List.append_toArray, List.nil_append, List.cons_append]
  refine wpIn_wide.2 ?_
  have M0 := Lib.hid (own_rdQ o1)
  have HH := Lib.hid h
  have HK := Lib.hid (And.intro hk hm)
  have HMK := Lib.hid hmk
  clear h o0 o1 o2 o3 o4 o5 hmk hk hm c0 q0
  go_wp2_with fail
  refine CM.out.mono ?_
  rintro e w2 ⟨rfl, rfl⟩
  obtain ⟨w1, hw1⟩ : ∃ w1, w1 = W.alloc (.cells #[.pointer (some ⟨g, 0, none⟩)] 30) := ⟨_, rfl⟩
  have KB1 : Hid (Has w1 W.heap.size 30 [.pointer (some ⟨g, 0, none⟩)]) := by rw [hw1]; exact Has.new rfl
  have BW1 : Hid (Below W.heap.size W w1) := by rw [hw1]; exact (Below.refl W.heap.size W).alloc (Nat.le_refl _) _
  rewrite [← hw1]
  rw [← hw1] at H1
  obtain ⟨bm, om, rfl, hbm, m0, m1, m2, m3⟩ := M0.out k _ HMK.out
  have m0 := (BW1.out.cell (p := ⟨bm, om + k * 4, none⟩) hbm).trans m0
  have m1 := (BW1.out.cell (p := ⟨bm, om + k * 4 + 1, none⟩) hbm).trans m1
  have m2 := (BW1.out.cell (p := ⟨bm, om + k * 4 + 2, none⟩) hbm).trans m2
  have m3 := (BW1.out.cell (p := ⟨bm, om + k * 4 + 3, none⟩) hbm).trans m3
  have p0 : w1.cell? ⟨W.heap.size, 0, none⟩ = some (.pointer (some ⟨g, 0, none⟩)) := KB1.out.cell 0
  have c3 : w1.cell? ⟨g, 3, none⟩ = some (.slice SA z.steps.length sc) := RowsH.cell H1.out 3
  have c4 : w1.cell? ⟨g, 4, none⟩ = some (.slice (some ⟨bm, om, none⟩) z.marks.length mc) := RowsH.cell H1.out 4
  have z1 := BW1.out.size
  have z2 := KB1.out.lt
  have hbm1 : bm < w1.heap.size := by omega
  have hg1 := H1.out.c.lt
  have i1 : IntKind.i64.wrap ((z.steps.length : Int) - 1) = (k : Int) := by rw [HK.out.1, IntWalk.i64_in _ (by omega)]; omega
  have kn : ¬ (k : Int) < 0 := by omega
  have kz : (0 : Int) ≤ (k : Int) := by omega
  have km : (k : Int) < (z.marks.length : Int) := by have := HK.out.2; omega
  have hmn : ((z.marks.length : Nat) : Int) = (k : Int) + 1 := by have := HK.out.2; omega
  clear CM M0
  clear hw1
  go_wp2
  have H2 := Lib.hid (RowsH.below H1.out ((Below.refl w1.heap.size w1).alloc (Nat.le_refl _) (.cells #[.int .i64 hands, .int .i64 (wn : Int), .int .i64 (xn : Int), .int .i64 (pn : Int)] 83)))
  obtain ⟨w2, hw2⟩ : ∃ w2, w2 = w1.alloc (.cells #[.int .i64 hands, .int .i64 (wn : Int), .int .i64 (xn : Int), .int .i64 (pn : Int)] 83) := ⟨_, rfl⟩
  have KM2 : Hid (Has w2 w1.heap.size 83 [.int .i64 hands, .int .i64 (wn : Int), .int .i64 (xn : Int), .int .i64 (pn : Int)]) := by rw [hw2]; exact Has.new rfl
  have BW2 : Hid (Below w1.heap.size w1 w2) := by rw [hw2]; exact (Below.refl _ _).alloc (Nat.le_refl _) _
  rewrite [← hw2]
  rw [← hw2] at H2
  have p0 : w2.cell? ⟨W.heap.size, 0, none⟩ = some (.pointer (some ⟨g, 0, none⟩)) := (BW2.out.cell (p := ⟨W.heap.size, 0, none⟩) z2).trans p0
  have c7 : w2.cell? ⟨g, 7, none⟩ = some (.slice XA z.xs.length xc) := RowsH.cell H2.out 7
  have d2 : w2.cell? ⟨w1.heap.size, 2, none⟩ = some (.int .i64 (xn : Int)) := KM2.out.cell 2
  have z3 := KM2.out.lt
  have z4 : W.heap.size < w2.heap.size := by omega
  have z5 : g < w2.heap.size := H2.out.c.lt
  have HDN := Lib.hid (And.intro H2.out.drew (And.intro KM2.out.drew (KB1.out.below BW2.out KB1.out.lt).drew))
  have xz : (xn : Int) ≤ (z.xs.length : Int) := by omega
  have HXC := Lib.hid (own_caps (H2.out.o 4 _ rfl))
  obtain ⟨A7, c7', hsl, hA7⟩ := slice_from XA z.xs.length xc xn hxn HXC.out.1
  have HA7 := Lib.hid hA7
  clear m0 m1 m2 m3 c3 c4 hw2 kn kz km hmn hbm hbm1 hA7
  go_region_held3 (fun W' => W'.cell? ⟨W.heap.size, 0, none⟩ = some (.pointer (some ⟨g, 0, none⟩)) ∧ W'.cell? ⟨g, 7, none⟩ = some (.slice XA z.xs.length xc) ∧ W'.cell? ⟨w1.heap.size, 2, none⟩ = some (.int .i64 (xn : Int))) (first | exact ⟨by assumption, by assumption, by assumption⟩ | go_keep) (first
    | (go_simp; go_at_call 49; refine (backward49 _ _ _ _).mono ?_; rintro e w3 ⟨rfl, hX3, hb3⟩; have e0 := HDN.out.2.2.below hb3 HDN.out.2.2.lt; have e1 := RowsH.below HDN.out.1 hb3; have e2 := HDN.out.2.1.below hb3 HDN.out.2.1.lt; have t0 : w3.cell? ⟨W.heap.size, 0, none⟩ = some (.pointer (some ⟨g, 0, none⟩)) := e0.cell 0; have t1 : w3.cell? ⟨g, 7, none⟩ = some (.slice XA z.xs.length xc) := RowsH.cell e1 7; have t2 : w3.cell? ⟨w1.heap.size, 2, none⟩ = some (.int .i64 (xn : Int)) := e2.cell 2; have hbw := BW1.out.trans (show Below W.heap.size w1 w3 from (BW2.out.mono z1).trans ((show Below w2.heap.size w2 w3 from (show Below w2.heap.size w2 w2.drew from ⟨rfl, rfl, rfl, Nat.le_refl _, fun _ _ => rfl⟩).trans hb3).mono (Nat.le_of_lt z4))))
    | fail)
  have K0 := Lib.hid e0
  have K2 := Lib.hid e2
  have H3 := Lib.hid e1
  have X3 := Lib.hid hX3
  have BW3 := Lib.hid hbw
  clear e0 e1 e2 t0 t1 t2 hX3 hbw hb3 HDN H2 KM2 BW2 p0 c7 d2 hsl
  obtain ⟨u0, hu0⟩ := get_of_lt (l := z.l.map vInt) (k := 0) (by rw [List.length_map]; exact hl0)
  obtain ⟨lb, rfl, hlB, hlbW, hc9⟩ := own_at (HH.out.o 3 _ rfl) hu0
  have z8 := BW3.out.size
  have hlb : lb < w3.heap.size := by omega
  have hlg : g ≠ lb := fun e => RowsH.ne H3.out (i := 3) rfl (by rw [e]; rfl)
  have HQ : Hid (∃ bq oq, bq < w3.heap.size ∧ bq ≠ lb ∧ (0 < z.xs.length - xn → A7 = some ⟨bq, oq, none⟩) ∧ ∀ (j : Nat) (x : Q4), (z.xs.drop xn)[j]? = some x → w3.cell? ⟨bq, oq + j*4, none⟩ = some (.int .i64 x.a) ∧ w3.cell? ⟨bq, oq + j*4+1, none⟩ = some (.int .i64 x.b) ∧ w3.cell? ⟨bq, oq + j*4+2, none⟩ = some (.int .i64 x.c) ∧ w3.cell? ⟨bq, oq+j*4+3, none⟩ = some (.int .i64 x.d)) := by
    by_cases hn0 : z.xs.length - xn = 0
    · refine ⟨g, 0, H3.out.c.lt, hlg, fun h => by omega, fun j x hx => ?_⟩
      rw [List.getElem?_drop] at hx
      have := lt_of_get hx
      omega
    · have o4 : w3.ownsRow B 47 4 (.slice XA z.xs.length xc) z.xs.length (qsC z.xs) := H3.out.o 4 _ rfl
      obtain ⟨x0, hx0⟩ := get_of_lt (l := z.xs) (k := 0) (by omega)
      obtain ⟨b, rfl, _, hb, _⟩ := own_at o4 (j := 0 * 4) (qsC_get hx0).1
      refine ⟨b, 0 + xn * 4, hb, fun e => ?_, fun h => ?_, fun j x hx => ?_⟩
      · exact RowsH.apart H3.out (i := 4) (j := 3) rfl rfl (by decide) (b := lb) (by rw [← e]; rfl) rfl
      · rw [HA7.out h, Option.map_some, Addr.add_lit]
      · rw [List.getElem?_drop] at hx
        obtain ⟨b', o', e, _, h1, h2, h3, h4⟩ := own_rdQ o4 _ _ hx
        injection e with e
        injection e with e1 e2
        subst e1 e2
        rw [show 0 + xn * 4 + j * 4 = 0 + (xn + j) * 4 by omega]
        exact ⟨h1, h2, h3, h4⟩
  have HX := Lib.hid (fun q (hq : q ∈ z.xs.drop xn) => hx q (List.mem_of_mem_drop hq))
  have z6 : w2.heap.size < w3.heap.size := X3.out.lt
  have hlw : lb ≠ w2.heap.size := by omega
  have z7 : W.heap.size < w3.heap.size := by omega
  clear hc9 hu0 u0 hx
  go_wp2
  refine wpIn_wide.1 (range_lawK (n := 0) (gf := 70) (lb := #[.pointer (some ⟨w2.heap.size, 0, none⟩)]) rfl Try.call70 encB (fun _ => rfl) (fun _ pre W' => BkI lb z.l.length lc B z.l w3 pre W') (fun ys => ys = bkTo (z.xs.drop xn) (z.xs.length - xn)) (fun _ pre x _ => OkB (z.xs.drop xn) pre x) (fun l _ A B => KeepL lb w3.heap.size l A B) (fun _ _ _ _ _ h k => h.trans k) (fun _ _ _ _ _ _ _ => KeepL.put _ _ _ _ _) (fun _ => bkI_own hlb) ⟨H3.out.o 3 _ rfl, KeepB.refl _ _⟩ ?iter ?rnd ?done)
  case iter =>
    intro l dd r0 W' hd1 hd2 hKB hMid hY
    obtain ⟨bq, oq, hbq, hbl, hA, hcs⟩ := HQ.out
    have hks := hKB.1
    have hlW := (Array.getElem?_eq_some_iff.1 hMid.rec_).1
    have hsame : ∀ r, r < w3.heap.size → W'.heap[r]? = w3.heap[r]? := fun r hr => hKB.2 r hr (by omega)
    refine callsIn_wide.2 ((iterBk (fun pre W' => BkI lb z.l.length lc B z.l w3 pre W') l dd w2.heap.size lb w3.heap.size bq oq (z.xs.length - xn) c7' r0 (z.xs.drop xn) W' (by rw [List.length_drop]) (by omega) A7 z6 (fun e => hlw e.symm) hbq hbl (by omega) hlW ((cell_same (a := ⟨w2.heap.size, 0, none⟩) (hsame _ z6)).trans (X3.out.cell 0)) hA (fun j x hx => ?_) hMid (fun pre x W1 ok hm => ?_)).mono ?_)
    · obtain ⟨h1, h2, h3, h4⟩ := hcs j x hx
      exact ⟨(cell_same (a := ⟨bq, _, none⟩) (hsame bq hbq)).trans h1, (cell_same (a := ⟨bq, _, none⟩) (hsame bq hbq)).trans h2, (cell_same (a := ⟨bq, _, none⟩) (hsame bq hbq)).trans h3, (cell_same (a := ⟨bq, _, none⟩) (hsame bq hbq)).trans h4⟩
    · exact hY w3.heap.size pre x W1 ok hm.inv.keep.size hm
    · rintro e W'' ⟨hv, hm⟩
      exact ⟨hv, w3.heap.size, _, rfl, hm⟩
  case done =>
    rintro D hi xs' W4 hD rfl hI hDf
    obtain ⟨hI1, hI2⟩ := hI
    have hln : z.xs.length - xn = (z.xs.drop xn).length := by rw [List.length_drop]
    rw [hln, lineB_all] at hI1
    have H4 := Lib.hid (RowsH.renew H3.out (i := 3) rfl (lb := lb) rfl hI2 hI1)
    have KB4 := Lib.hid hI2
    have hz4 := hI2.size
    have hgD : g ≠ D := by have := H3.out.c.lt; omega
    have p0 : W4.cell? ⟨W.heap.size, 0, none⟩ = some (.pointer (some ⟨g, 0, none⟩)) := (cell_same (a := ⟨W.heap.size, 0, none⟩) (hI2.block _ z7 (show ¬ W.heap.size = lb by omega))).trans (K0.out.cell 0)
    have hw1 : w1.heap.size < w3.heap.size := by omega
    have KM : ∀ i, W4.cell? ⟨w1.heap.size, i, none⟩ = _ := fun i => (cell_same (a := ⟨w1.heap.size, i, none⟩) (hI2.block _ hw1 (show ¬ w1.heap.size = lb by omega))).trans (K2.out.cell i)
    have d0 : W4.cell? ⟨w1.heap.size, 0, none⟩ = some (.int .i64 hands) := KM 0
    have d1 : W4.cell? ⟨w1.heap.size, 1, none⟩ = some (.int .i64 (wn : Int)) := KM 1
    have d2 : W4.cell? ⟨w1.heap.size, 2, none⟩ = some (.int .i64 (xn : Int)) := KM 2
    have d3 : W4.cell? ⟨w1.heap.size, 3, none⟩ = some (.int .i64 (pn : Int)) := KM 3
    have c2 : W4.cell? ⟨g, 2, none⟩ = some (.int .i64 z.hands) := RowsH.cell H4.out 2
    have c3 : W4.cell? ⟨g, 3, none⟩ = some (.slice SA z.steps.length sc) := RowsH.cell H4.out 3
    have c4 : W4.cell? ⟨g, 4, none⟩ = some (.slice (some ⟨bm, om, none⟩) z.marks.length mc) := RowsH.cell H4.out 4
    have c5 : W4.cell? ⟨g, 5, none⟩ = some (.slice VA z.works.length vc) := RowsH.cell H4.out 5
    have c7 : W4.cell? ⟨g, 7, none⟩ = some (.slice XA z.xs.length xc) := RowsH.cell H4.out 7
    have c8 : W4.cell? ⟨g, 8, none⟩ = some (.slice PA z.ps.length pc) := RowsH.cell H4.out 8
    have cv := own_caps (H4.out.o 2 _ rfl)
    have cx := own_caps (H4.out.o 4 _ rfl)
    have cp := own_caps (H4.out.o 5 _ rfl)
    have cs0 := own_caps (H4.out.o 0 _ rfl)
    have cm0 := own_caps (H4.out.o 1 _ rfl)
    have hsV := fun W' => slice_to 22 3 (by kernel_rfl) (fun W => by kernel_rfl) VA z.works.length vc wn (by have := cv.1; omega) W'
    have hsX := fun W' => slice_to 40 4 (by kernel_rfl) (fun W => by kernel_rfl) XA z.xs.length xc xn (by have := cx.1; omega) W'
    have hsP := fun W' => slice_to 79 6 (by kernel_rfl) (fun W => by kernel_rfl) PA z.ps.length pc pn (by have := cp.1; omega) W'
    have hsS := fun W' => slice_to 25 3 (by kernel_rfl) (fun W => by kernel_rfl) SA z.steps.length sc k (by have := cs0.1; have := HK.out.1; omega) W'
    have hsM := fun W' => slice_to 78 4 (by kernel_rfl) (fun W => by kernel_rfl) (some ⟨bm, om, none⟩) z.marks.length mc k (by have := cm0.1; have := HK.out.2; omega) W'
    have ff := fun i => H4.out.c.free i
    have n1 : g ≠ W.heap.size := by omega
    have n2 : g ≠ w1.heap.size := by omega
    have hg4 := H4.out.c.lt
    have q4 : W.heap.size < W4.heap.size := by omega
    have q5 : w1.heap.size < W4.heap.size := by omega
    have hD4 := Lib.hid hDf
    clear hln hI1 hI2 KM cv cx cp cs0 cm0 hDf HQ HX
    go_wp2
    refine wp_region_noPanic ?_
    refine wp_region_B (fun b w' => w'.cell? ⟨W.heap.size, 0, none⟩ = some (.pointer (some ⟨g, 0, none⟩)) ∧ w'.cell? ⟨w1.heap.size, 0, none⟩ = some (.int .i64 hands) ∧ w'.cell? ⟨w1.heap.size, 1, none⟩ = some (.int .i64 (wn : Int)) ∧ w'.cell? ⟨w1.heap.size, 2, none⟩ = some (.int .i64 (xn : Int)) ∧ w'.cell? ⟨w1.heap.size, 3, none⟩ = some (.int .i64 (pn : Int)) ∧ (b = false → w'.cell? ⟨g, 5, none⟩ = some (.slice VA z.works.length vc) ∧ w'.cell? ⟨g, 7, none⟩ = some (.slice XA z.xs.length xc) ∧ w'.cell? ⟨g, 8, none⟩ = some (.slice PA z.ps.length pc))) 29 (by kernel_rfl) ?_
    have hSSr10 : (fun b w' => w'.cell? ⟨W.heap.size, 0, none⟩ = some (.pointer (some ⟨g, 0, none⟩)) ∧ w'.cell? ⟨w1.heap.size, 0, none⟩ = some (.int .i64 hands) ∧ w'.cell? ⟨w1.heap.size, 1, none⟩ = some (.int .i64 (wn : Int)) ∧ w'.cell? ⟨w1.heap.size, 2, none⟩ = some (.int .i64 (xn : Int)) ∧ w'.cell? ⟨w1.heap.size, 3, none⟩ = some (.int .i64 (pn : Int)) ∧ (b = false → w'.cell? ⟨g, 5, none⟩ = some (.slice VA z.works.length vc) ∧ w'.cell? ⟨g, 7, none⟩ = some (.slice XA z.xs.length xc) ∧ w'.cell? ⟨g, 8, none⟩ = some (.slice PA z.ps.length pc))) false (W4.drew) := ⟨p0, d0, d1, d2, d3, fun _ => ⟨c5, c7, c8⟩⟩
    refine wpAnyB_take (i := 0) (oi := _) (v := ?vvr101) (fun w' => w'.cell? ⟨W.heap.size, 0, none⟩ = some (.pointer (some ⟨g, 0, none⟩)) ∧ w'.cell? ⟨w1.heap.size, 0, none⟩ = some (.int .i64 hands) ∧ w'.cell? ⟨w1.heap.size, 1, none⟩ = some (.int .i64 (wn : Int)) ∧ w'.cell? ⟨w1.heap.size, 2, none⟩ = some (.int .i64 (xn : Int)) ∧ w'.cell? ⟨w1.heap.size, 3, none⟩ = some (.int .i64 (pn : Int))) rfl (by kernel_rfl) (by kernel_rfl) (by kernel_rfl) (by kernel_rfl) (by rfl) (fun _ h => ⟨h.1, h.2.1, h.2.2.1, h.2.2.2.1, h.2.2.2.2.1⟩) (.inl fun _ h => ⟨h.1, h.2.1, h.2.2.1, h.2.2.2.1, h.2.2.2.2.1⟩) (fun _ _ _ h => h) (.inl ⟨by rfl, ?hyr101⟩) hSSr10 ?_
    case hyr101 =>
      intro w' hSw
      try dsimp only at hSw
      go_simp
      all_goals with_reducible rfl
    try simp only [Act.put, List.setIfInBounds_toArray]
    refine wpAnyB_take (i := 1) (oi := _) (v := ?vvr102) (fun w' => w'.cell? ⟨W.heap.size, 0, none⟩ = some (.pointer (some ⟨g, 0, none⟩)) ∧ w'.cell? ⟨w1.heap.size, 0, none⟩ = some (.int .i64 hands) ∧ w'.cell? ⟨w1.heap.size, 1, none⟩ = some (.int .i64 (wn : Int)) ∧ w'.cell? ⟨w1.heap.size, 2, none⟩ = some (.int .i64 (xn : Int)) ∧ w'.cell? ⟨w1.heap.size, 3, none⟩ = some (.int .i64 (pn : Int))) rfl (by kernel_rfl) (by kernel_rfl) (by kernel_rfl) (by kernel_rfl) (by rfl) (fun _ h => ⟨h.1, h.2.1, h.2.2.1, h.2.2.2.1, h.2.2.2.2.1⟩) (.inl fun _ h => ⟨h.1, h.2.1, h.2.2.1, h.2.2.2.1, h.2.2.2.2.1⟩) (fun _ _ _ h => h) (.inl ⟨by rfl, ?hyr102⟩) hSSr10 ?_
    case hyr102 =>
      intro w' hSw
      try dsimp only at hSw
      go_simp
      all_goals with_reducible rfl
    try simp only [Act.put]
    refine wpAnyB_take (i := 2) (oi := _) (v := ?vvr103) (fun w' => w'.cell? ⟨W.heap.size, 0, none⟩ = some (.pointer (some ⟨g, 0, none⟩)) ∧ w'.cell? ⟨w1.heap.size, 0, none⟩ = some (.int .i64 hands) ∧ w'.cell? ⟨w1.heap.size, 1, none⟩ = some (.int .i64 (wn : Int)) ∧ w'.cell? ⟨w1.heap.size, 2, none⟩ = some (.int .i64 (xn : Int)) ∧ w'.cell? ⟨w1.heap.size, 3, none⟩ = some (.int .i64 (pn : Int))) rfl (by kernel_rfl) (by kernel_rfl) (by kernel_rfl) (by kernel_rfl) (by rfl) (fun _ h => ⟨h.1, h.2.1, h.2.2.1, h.2.2.2.1, h.2.2.2.2.1⟩) (.inl fun _ h => ⟨h.1, h.2.1, h.2.2.1, h.2.2.2.1, h.2.2.2.2.1⟩) (fun _ _ _ h => h) (.inl ⟨by rfl, ?hyr103⟩) hSSr10 ?_
    case hyr103 =>
      intro w' hSw
      try dsimp only at hSw
      go_simp
      all_goals with_reducible rfl
    try simp only [Act.put]
    refine wpAnyB_take (i := 3) (oi := _) (v := ?vvr104) (fun w' => w'.cell? ⟨W.heap.size, 0, none⟩ = some (.pointer (some ⟨g, 0, none⟩)) ∧ w'.cell? ⟨w1.heap.size, 0, none⟩ = some (.int .i64 hands) ∧ w'.cell? ⟨w1.heap.size, 1, none⟩ = some (.int .i64 (wn : Int)) ∧ w'.cell? ⟨w1.heap.size, 2, none⟩ = some (.int .i64 (xn : Int)) ∧ w'.cell? ⟨w1.heap.size, 3, none⟩ = some (.int .i64 (pn : Int))) rfl (by kernel_rfl) (by kernel_rfl) (by kernel_rfl) (by kernel_rfl) (by rfl) (fun _ h => ⟨h.1, h.2.1, h.2.2.1, h.2.2.2.1, h.2.2.2.2.1⟩) (.inl fun _ h => ⟨h.1, h.2.1, h.2.2.1, h.2.2.2.1, h.2.2.2.2.1⟩) (fun _ _ _ h => h) (.inl ⟨by rfl, ?hyr104⟩) hSSr10 ?_
    case hyr104 =>
      intro w' hSw
      try dsimp only at hSw
      go_simp
      all_goals with_reducible rfl
    try simp only [Act.put]
    refine wpAnyB_take (i := 4) (oi := _) (v := ?vvr105) (fun w' => w'.cell? ⟨W.heap.size, 0, none⟩ = some (.pointer (some ⟨g, 0, none⟩)) ∧ w'.cell? ⟨w1.heap.size, 0, none⟩ = some (.int .i64 hands) ∧ w'.cell? ⟨w1.heap.size, 1, none⟩ = some (.int .i64 (wn : Int)) ∧ w'.cell? ⟨w1.heap.size, 2, none⟩ = some (.int .i64 (xn : Int)) ∧ w'.cell? ⟨w1.heap.size, 3, none⟩ = some (.int .i64 (pn : Int))) rfl (by kernel_rfl) (by kernel_rfl) (by kernel_rfl) (by kernel_rfl) (by rfl) (fun _ h => ⟨h.1, h.2.1, h.2.2.1, h.2.2.2.1, h.2.2.2.2.1⟩) (.inl fun _ h => ⟨h.1, h.2.1, h.2.2.1, h.2.2.2.1, h.2.2.2.2.1⟩) (fun _ _ _ h => h) (.inl ⟨by rfl, ?hyr105⟩) hSSr10 ?_
    case hyr105 =>
      intro w' hSw
      try dsimp only at hSw
      go_simp
      all_goals with_reducible rfl
    try simp only [Act.put]
    refine wpAnyB_take (i := 5) (oi := _) (v := ?vvr106) (fun w' => w'.cell? ⟨W.heap.size, 0, none⟩ = some (.pointer (some ⟨g, 0, none⟩)) ∧ w'.cell? ⟨w1.heap.size, 0, none⟩ = some (.int .i64 hands) ∧ w'.cell? ⟨w1.heap.size, 1, none⟩ = some (.int .i64 (wn : Int)) ∧ w'.cell? ⟨w1.heap.size, 2, none⟩ = some (.int .i64 (xn : Int)) ∧ w'.cell? ⟨w1.heap.size, 3, none⟩ = some (.int .i64 (pn : Int))) rfl (by kernel_rfl) (by kernel_rfl) (by kernel_rfl) (by kernel_rfl) (by rfl) (fun _ h => ⟨h.1, h.2.1, h.2.2.1, h.2.2.2.1, h.2.2.2.2.1⟩) (.inl fun _ h => ⟨h.1, h.2.1, h.2.2.1, h.2.2.2.1, h.2.2.2.2.1⟩) (fun _ _ _ h => h) (.inl ⟨by rfl, ?hyr106⟩) hSSr10 ?_
    case hyr106 =>
      intro w' hSw
      try dsimp only at hSw
      go_simp
      all_goals with_reducible rfl
    try simp only [Act.put]
    refine wpAnyB_take (i := 6) (oi := _) (v := ?vvr107) (fun w' => w'.cell? ⟨W.heap.size, 0, none⟩ = some (.pointer (some ⟨g, 0, none⟩)) ∧ w'.cell? ⟨w1.heap.size, 0, none⟩ = some (.int .i64 hands) ∧ w'.cell? ⟨w1.heap.size, 1, none⟩ = some (.int .i64 (wn : Int)) ∧ w'.cell? ⟨w1.heap.size, 2, none⟩ = some (.int .i64 (xn : Int)) ∧ w'.cell? ⟨w1.heap.size, 3, none⟩ = some (.int .i64 (pn : Int))) rfl (by kernel_rfl) (by kernel_rfl) (by kernel_rfl) (by kernel_rfl) (by rfl) (fun _ h => ⟨h.1, h.2.1, h.2.2.1, h.2.2.2.1, h.2.2.2.2.1⟩) (.inl fun _ h => ⟨h.1, h.2.1, h.2.2.1, h.2.2.2.1, h.2.2.2.2.1⟩) (fun _ _ _ h => h) (.inl ⟨by rfl, ?hyr107⟩) hSSr10 ?_
    case hyr107 =>
      intro w' hSw
      try dsimp only at hSw
      go_simp
      all_goals with_reducible rfl
    try simp only [Act.put]
    refine wpAnyB_take (i := 7) (oi := _) (v := ?vvr108) (fun w' => w'.cell? ⟨W.heap.size, 0, none⟩ = some (.pointer (some ⟨g, 0, none⟩)) ∧ w'.cell? ⟨w1.heap.size, 0, none⟩ = some (.int .i64 hands) ∧ w'.cell? ⟨w1.heap.size, 1, none⟩ = some (.int .i64 (wn : Int)) ∧ w'.cell? ⟨w1.heap.size, 2, none⟩ = some (.int .i64 (xn : Int)) ∧ w'.cell? ⟨w1.heap.size, 3, none⟩ = some (.int .i64 (pn : Int))) rfl (by kernel_rfl) (by kernel_rfl) (by kernel_rfl) (by kernel_rfl) (by rfl) (fun _ h => ⟨h.1, h.2.1, h.2.2.1, h.2.2.2.1, h.2.2.2.2.1⟩) (.inl fun _ h => ⟨h.1, h.2.1, h.2.2.1, h.2.2.2.1, h.2.2.2.2.1⟩) (fun _ _ _ h => h) (.inl ⟨by rfl, ?hyr108⟩) hSSr10 ?_
    case hyr108 =>
      intro w' hSw
      try dsimp only at hSw
      go_simp
      all_goals with_reducible rfl
    try simp only [Act.put]
    refine wpAnyB_take (i := 8) (oi := _) (v := ?vvr109) (fun w' => w'.cell? ⟨W.heap.size, 0, none⟩ = some (.pointer (some ⟨g, 0, none⟩)) ∧ w'.cell? ⟨w1.heap.size, 0, none⟩ = some (.int .i64 hands) ∧ w'.cell? ⟨w1.heap.size, 1, none⟩ = some (.int .i64 (wn : Int)) ∧ w'.cell? ⟨w1.heap.size, 2, none⟩ = some (.int .i64 (xn : Int)) ∧ w'.cell? ⟨w1.heap.size, 3, none⟩ = some (.int .i64 (pn : Int))) rfl (by kernel_rfl) (by kernel_rfl) (by kernel_rfl) (by kernel_rfl) (by rfl) (fun _ h => ⟨h.1, h.2.1, h.2.2.1, h.2.2.2.1, h.2.2.2.2.1⟩) (.inl fun _ h => ⟨h.1, h.2.1, h.2.2.1, h.2.2.2.1, h.2.2.2.2.1⟩) (fun _ _ _ h => h) (.inl ⟨by rfl, ?hyr109⟩) hSSr10 ?_
    case hyr109 =>
      intro w' hSw
      try dsimp only at hSw
      go_simp
      all_goals with_reducible rfl
    try simp only [Act.put]
    refine wpAnyB_take (i := 9) (oi := _) (v := ?vvr1010) (fun w' => w'.cell? ⟨W.heap.size, 0, none⟩ = some (.pointer (some ⟨g, 0, none⟩)) ∧ w'.cell? ⟨w1.heap.size, 0, none⟩ = some (.int .i64 hands) ∧ w'.cell? ⟨w1.heap.size, 1, none⟩ = some (.int .i64 (wn : Int)) ∧ w'.cell? ⟨w1.heap.size, 2, none⟩ = some (.int .i64 (xn : Int)) ∧ w'.cell? ⟨w1.heap.size, 3, none⟩ = some (.int .i64 (pn : Int)) ∧ w'.cell? ⟨g, 5, none⟩ = some (.slice VA z.works.length vc) ∧ w'.cell? ⟨g, 7, none⟩ = some (.slice XA z.xs.length xc) ∧ w'.cell? ⟨g, 8, none⟩ = some (.slice PA z.ps.length pc)) rfl (by kernel_rfl) (by kernel_rfl) (by kernel_rfl) (by kernel_rfl) (by rfl) (fun _ h => ⟨h.1, h.2.1, h.2.2.1, h.2.2.2.1, h.2.2.2.2.1, h.2.2.2.2.2 rfl⟩) (.inr (by kernel_rfl)) (fun _ _ _ h => h) (.inl ⟨by rfl, ?hyr1010⟩) hSSr10 ?_
    case hyr1010 =>
      intro w' hSw
      try dsimp only at hSw
      go_simp
      all_goals with_reducible rfl
    try simp only [Act.put]
    refine wpAnyB_take (i := 10) (oi := _) (v := ?vvr1011) (fun w' => w'.cell? ⟨W.heap.size, 0, none⟩ = some (.pointer (some ⟨g, 0, none⟩)) ∧ w'.cell? ⟨w1.heap.size, 0, none⟩ = some (.int .i64 hands) ∧ w'.cell? ⟨w1.heap.size, 1, none⟩ = some (.int .i64 (wn : Int)) ∧ w'.cell? ⟨w1.heap.size, 2, none⟩ = some (.int .i64 (xn : Int)) ∧ w'.cell? ⟨w1.heap.size, 3, none⟩ = some (.int .i64 (pn : Int))) rfl (by kernel_rfl) (by kernel_rfl) (by kernel_rfl) (by kernel_rfl) (by rfl) (fun _ h => ⟨h.1, h.2.1, h.2.2.1, h.2.2.2.1, h.2.2.2.2.1⟩) (.inl fun _ h => ⟨h.1, h.2.1, h.2.2.1, h.2.2.2.1, h.2.2.2.2.1⟩) (fun _ _ _ h => h) (.inl ⟨by rfl, ?hyr1011⟩) hSSr10 ?_
    case hyr1011 =>
      intro w' hSw
      try dsimp only at hSw
      go_simp
      all_goals with_reducible rfl
    try simp only [Act.put]
    refine wpAnyB_take (i := 11) (oi := _) (v := ?vvr1012) (fun w' => w'.cell? ⟨W.heap.size, 0, none⟩ = some (.pointer (some ⟨g, 0, none⟩)) ∧ w'.cell? ⟨w1.heap.size, 0, none⟩ = some (.int .i64 hands) ∧ w'.cell? ⟨w1.heap.size, 1, none⟩ = some (.int .i64 (wn : Int)) ∧ w'.cell? ⟨w1.heap.size, 2, none⟩ = some (.int .i64 (xn : Int)) ∧ w'.cell? ⟨w1.heap.size, 3, none⟩ = some (.int .i64 (pn : Int))) rfl (by kernel_rfl) (by kernel_rfl) (by kernel_rfl) (by kernel_rfl) (by rfl) (fun _ h => ⟨h.1, h.2.1, h.2.2.1, h.2.2.2.1, h.2.2.2.2.1⟩) (.inl fun _ h => ⟨h.1, h.2.1, h.2.2.1, h.2.2.2.1, h.2.2.2.2.1⟩) (fun _ _ _ h => h) (.inl ⟨by rfl, ?hyr1012⟩) hSSr10 ?_
    case hyr1012 =>
      intro w' hSw
      try dsimp only at hSw
      go_simp
      all_goals with_reducible rfl
    try simp only [Act.put]
    refine wpAnyB_take (i := 12) (oi := _) (v := ?vvr1013) (fun w' => w'.cell? ⟨W.heap.size, 0, none⟩ = some (.pointer (some ⟨g, 0, none⟩)) ∧ w'.cell? ⟨w1.heap.size, 0, none⟩ = some (.int .i64 hands) ∧ w'.cell? ⟨w1.heap.size, 1, none⟩ = some (.int .i64 (wn : Int)) ∧ w'.cell? ⟨w1.heap.size, 2, none⟩ = some (.int .i64 (xn : Int)) ∧ w'.cell? ⟨w1.heap.size, 3, none⟩ = some (.int .i64 (pn : Int))) rfl (by kernel_rfl) (by kernel_rfl) (by kernel_rfl) (by kernel_rfl) (by rfl) (fun _ h => ⟨h.1, h.2.1, h.2.2.1, h.2.2.2.1, h.2.2.2.2.1⟩) (.inl fun _ h => ⟨h.1, h.2.1, h.2.2.1, h.2.2.2.1, h.2.2.2.2.1⟩) (fun _ _ _ h => h) (.inl ⟨by rfl, ?hyr1013⟩) hSSr10 ?_
    case hyr1013 =>
      intro w' hSw
      try dsimp only at hSw
      go_simp
      all_goals with_reducible rfl
    try simp only [Act.put]
    refine wpAnyB_take (i := 13) (oi := _) (v := ?vvr1014) (fun w' => w'.cell? ⟨W.heap.size, 0, none⟩ = some (.pointer (some ⟨g, 0, none⟩)) ∧ w'.cell? ⟨w1.heap.size, 0, none⟩ = some (.int .i64 hands) ∧ w'.cell? ⟨w1.heap.size, 1, none⟩ = some (.int .i64 (wn : Int)) ∧ w'.cell? ⟨w1.heap.size, 2, none⟩ = some (.int .i64 (xn : Int)) ∧ w'.cell? ⟨w1.heap.size, 3, none⟩ = some (.int .i64 (pn : Int))) rfl (by kernel_rfl) (by kernel_rfl) (by kernel_rfl) (by kernel_rfl) (by rfl) (fun _ h => ⟨h.1, h.2.1, h.2.2.1, h.2.2.2.1, h.2.2.2.2.1⟩) (.inl fun _ h => ⟨h.1, h.2.1, h.2.2.1, h.2.2.2.1, h.2.2.2.2.1⟩) (fun _ _ _ h => h) (.inl ⟨by rfl, ?hyr1014⟩) hSSr10 ?_
    case hyr1014 =>
      intro w' hSw
      try dsimp only at hSw
      go_simp
      all_goals with_reducible rfl
    try simp only [Act.put]
    refine wpAnyB_take (i := 14) (oi := _) (v := ?vvr1015) (fun w' => w'.cell? ⟨W.heap.size, 0, none⟩ = some (.pointer (some ⟨g, 0, none⟩)) ∧ w'.cell? ⟨w1.heap.size, 0, none⟩ = some (.int .i64 hands) ∧ w'.cell? ⟨w1.heap.size, 1, none⟩ = some (.int .i64 (wn : Int)) ∧ w'.cell? ⟨w1.heap.size, 2, none⟩ = some (.int .i64 (xn : Int)) ∧ w'.cell? ⟨w1.heap.size, 3, none⟩ = some (.int .i64 (pn : Int))) rfl (by kernel_rfl) (by kernel_rfl) (by kernel_rfl) (by kernel_rfl) (by rfl) (fun _ h => ⟨h.1, h.2.1, h.2.2.1, h.2.2.2.1, h.2.2.2.2.1⟩) (.inl fun _ h => ⟨h.1, h.2.1, h.2.2.1, h.2.2.2.1, h.2.2.2.2.1⟩) (fun _ _ _ h => h) (.inl ⟨by rfl, ?hyr1015⟩) hSSr10 ?_
    case hyr1015 =>
      intro w' hSw
      try dsimp only at hSw
      go_simp
      all_goals with_reducible rfl
    try simp only [Act.put]
    refine wpAnyB_take (i := 15) (oi := _) (v := ?vvr1016) (fun w' => w'.cell? ⟨W.heap.size, 0, none⟩ = some (.pointer (some ⟨g, 0, none⟩)) ∧ w'.cell? ⟨w1.heap.size, 0, none⟩ = some (.int .i64 hands) ∧ w'.cell? ⟨w1.heap.size, 1, none⟩ = some (.int .i64 (wn : Int)) ∧ w'.cell? ⟨w1.heap.size, 2, none⟩ = some (.int .i64 (xn : Int)) ∧ w'.cell? ⟨w1.heap.size, 3, none⟩ = some (.int .i64 (pn : Int))) rfl (by kernel_rfl) (by kernel_rfl) (by kernel_rfl) (by kernel_rfl) (by rfl) (fun _ h => ⟨h.1, h.2.1, h.2.2.1, h.2.2.2.1, h.2.2.2.2.1⟩) (.inl fun _ h => ⟨h.1, h.2.1, h.2.2.1, h.2.2.2.1, h.2.2.2.2.1⟩) (fun _ _ _ h => h) (.inl ⟨by rfl, ?hyr1016⟩) hSSr10 ?_
    case hyr1016 =>
      intro w' hSw
      try dsimp only at hSw
      go_simp
      all_goals with_reducible rfl
    try simp only [Act.put]
    refine wpAnyB_take (i := 16) (oi := _) (v := ?vvr1017) (fun w' => w'.cell? ⟨W.heap.size, 0, none⟩ = some (.pointer (some ⟨g, 0, none⟩)) ∧ w'.cell? ⟨w1.heap.size, 0, none⟩ = some (.int .i64 hands) ∧ w'.cell? ⟨w1.heap.size, 1, none⟩ = some (.int .i64 (wn : Int)) ∧ w'.cell? ⟨w1.heap.size, 2, none⟩ = some (.int .i64 (xn : Int)) ∧ w'.cell? ⟨w1.heap.size, 3, none⟩ = some (.int .i64 (pn : Int)) ∧ w'.cell? ⟨g, 5, none⟩ = some (.slice VA z.works.length vc) ∧ w'.cell? ⟨g, 7, none⟩ = some (.slice XA z.xs.length xc) ∧ w'.cell? ⟨g, 8, none⟩ = some (.slice PA z.ps.length pc)) rfl (by kernel_rfl) (by kernel_rfl) (by kernel_rfl) (by kernel_rfl) (by rfl) (fun _ h => ⟨h.1, h.2.1, h.2.2.1, h.2.2.2.1, h.2.2.2.2.1, h.2.2.2.2.2 rfl⟩) (.inr (by kernel_rfl)) (fun _ _ _ h => h) (.inl ⟨by rfl, ?hyr1017⟩) hSSr10 ?_
    case hyr1017 =>
      intro w' hSw
      try dsimp only at hSw
      go_simp
      all_goals with_reducible rfl
    try simp only [Act.put]
    refine wpAnyB_take (i := 17) (oi := _) (v := ?vvr1018) (fun w' => w'.cell? ⟨W.heap.size, 0, none⟩ = some (.pointer (some ⟨g, 0, none⟩)) ∧ w'.cell? ⟨w1.heap.size, 0, none⟩ = some (.int .i64 hands) ∧ w'.cell? ⟨w1.heap.size, 1, none⟩ = some (.int .i64 (wn : Int)) ∧ w'.cell? ⟨w1.heap.size, 2, none⟩ = some (.int .i64 (xn : Int)) ∧ w'.cell? ⟨w1.heap.size, 3, none⟩ = some (.int .i64 (pn : Int))) rfl (by kernel_rfl) (by kernel_rfl) (by kernel_rfl) (by kernel_rfl) (by rfl) (fun _ h => ⟨h.1, h.2.1, h.2.2.1, h.2.2.2.1, h.2.2.2.2.1⟩) (.inl fun _ h => ⟨h.1, h.2.1, h.2.2.1, h.2.2.2.1, h.2.2.2.2.1⟩) (fun _ _ _ h => h) (.inl ⟨by rfl, ?hyr1018⟩) hSSr10 ?_
    case hyr1018 =>
      intro w' hSw
      try dsimp only at hSw
      go_simp
      all_goals with_reducible rfl
    try simp only [Act.put]
    refine wpAnyB_take (i := 18) (oi := _) (v := ?vvr1019) (fun w' => w'.cell? ⟨W.heap.size, 0, none⟩ = some (.pointer (some ⟨g, 0, none⟩)) ∧ w'.cell? ⟨w1.heap.size, 0, none⟩ = some (.int .i64 hands) ∧ w'.cell? ⟨w1.heap.size, 1, none⟩ = some (.int .i64 (wn : Int)) ∧ w'.cell? ⟨w1.heap.size, 2, none⟩ = some (.int .i64 (xn : Int)) ∧ w'.cell? ⟨w1.heap.size, 3, none⟩ = some (.int .i64 (pn : Int))) rfl (by kernel_rfl) (by kernel_rfl) (by kernel_rfl) (by kernel_rfl) (by rfl) (fun _ h => ⟨h.1, h.2.1, h.2.2.1, h.2.2.2.1, h.2.2.2.2.1⟩) (.inl fun _ h => ⟨h.1, h.2.1, h.2.2.1, h.2.2.2.1, h.2.2.2.2.1⟩) (fun _ _ _ h => h) (.inl ⟨by rfl, ?hyr1019⟩) hSSr10 ?_
    case hyr1019 =>
      intro w' hSw
      try dsimp only at hSw
      go_simp
      all_goals with_reducible rfl
    try simp only [Act.put]
    refine wpAnyB_take (i := 19) (oi := _) (v := ?vvr1020) (fun w' => w'.cell? ⟨W.heap.size, 0, none⟩ = some (.pointer (some ⟨g, 0, none⟩)) ∧ w'.cell? ⟨w1.heap.size, 0, none⟩ = some (.int .i64 hands) ∧ w'.cell? ⟨w1.heap.size, 1, none⟩ = some (.int .i64 (wn : Int)) ∧ w'.cell? ⟨w1.heap.size, 2, none⟩ = some (.int .i64 (xn : Int)) ∧ w'.cell? ⟨w1.heap.size, 3, none⟩ = some (.int .i64 (pn : Int))) rfl (by kernel_rfl) (by kernel_rfl) (by kernel_rfl) (by kernel_rfl) (by rfl) (fun _ h => ⟨h.1, h.2.1, h.2.2.1, h.2.2.2.1, h.2.2.2.2.1⟩) (.inl fun _ h => ⟨h.1, h.2.1, h.2.2.1, h.2.2.2.1, h.2.2.2.2.1⟩) (fun _ _ _ h => h) (.inl ⟨by rfl, ?hyr1020⟩) hSSr10 ?_
    case hyr1020 =>
      intro w' hSw
      try dsimp only at hSw
      go_simp
      all_goals with_reducible rfl
    try simp only [Act.put]
    refine wpAnyB_take (i := 20) (oi := _) (v := ?vvr1021) (fun w' => w'.cell? ⟨W.heap.size, 0, none⟩ = some (.pointer (some ⟨g, 0, none⟩)) ∧ w'.cell? ⟨w1.heap.size, 0, none⟩ = some (.int .i64 hands) ∧ w'.cell? ⟨w1.heap.size, 1, none⟩ = some (.int .i64 (wn : Int)) ∧ w'.cell? ⟨w1.heap.size, 2, none⟩ = some (.int .i64 (xn : Int)) ∧ w'.cell? ⟨w1.heap.size, 3, none⟩ = some (.int .i64 (pn : Int))) rfl (by kernel_rfl) (by kernel_rfl) (by kernel_rfl) (by kernel_rfl) (by rfl) (fun _ h => ⟨h.1, h.2.1, h.2.2.1, h.2.2.2.1, h.2.2.2.2.1⟩) (.inl fun _ h => ⟨h.1, h.2.1, h.2.2.1, h.2.2.2.1, h.2.2.2.2.1⟩) (fun _ _ _ h => h) (.inl ⟨by rfl, ?hyr1021⟩) hSSr10 ?_
    case hyr1021 =>
      intro w' hSw
      try dsimp only at hSw
      go_simp
      all_goals with_reducible rfl
    try simp only [Act.put]
    refine wpAnyB_take (i := 21) (oi := _) (v := ?vvr1022) (fun w' => w'.cell? ⟨W.heap.size, 0, none⟩ = some (.pointer (some ⟨g, 0, none⟩)) ∧ w'.cell? ⟨w1.heap.size, 0, none⟩ = some (.int .i64 hands) ∧ w'.cell? ⟨w1.heap.size, 1, none⟩ = some (.int .i64 (wn : Int)) ∧ w'.cell? ⟨w1.heap.size, 2, none⟩ = some (.int .i64 (xn : Int)) ∧ w'.cell? ⟨w1.heap.size, 3, none⟩ = some (.int .i64 (pn : Int))) rfl (by kernel_rfl) (by kernel_rfl) (by kernel_rfl) (by kernel_rfl) (by rfl) (fun _ h => ⟨h.1, h.2.1, h.2.2.1, h.2.2.2.1, h.2.2.2.2.1⟩) (.inl fun _ h => ⟨h.1, h.2.1, h.2.2.1, h.2.2.2.1, h.2.2.2.2.1⟩) (fun _ _ _ h => h) (.inl ⟨by rfl, ?hyr1022⟩) hSSr10 ?_
    case hyr1022 =>
      intro w' hSw
      try dsimp only at hSw
      go_simp
      all_goals with_reducible rfl
    try simp only [Act.put]
    refine wpAnyB_take (i := 22) (oi := _) (v := ?vvr1023) (fun w' => w'.cell? ⟨W.heap.size, 0, none⟩ = some (.pointer (some ⟨g, 0, none⟩)) ∧ w'.cell? ⟨w1.heap.size, 0, none⟩ = some (.int .i64 hands) ∧ w'.cell? ⟨w1.heap.size, 1, none⟩ = some (.int .i64 (wn : Int)) ∧ w'.cell? ⟨w1.heap.size, 2, none⟩ = some (.int .i64 (xn : Int)) ∧ w'.cell? ⟨w1.heap.size, 3, none⟩ = some (.int .i64 (pn : Int))) rfl (by kernel_rfl) (by kernel_rfl) (by kernel_rfl) (by kernel_rfl) (by rfl) (fun _ h => ⟨h.1, h.2.1, h.2.2.1, h.2.2.2.1, h.2.2.2.2.1⟩) (.inl fun _ h => ⟨h.1, h.2.1, h.2.2.1, h.2.2.2.1, h.2.2.2.2.1⟩) (fun _ _ _ h => h) (.inl ⟨by rfl, ?hyr1023⟩) hSSr10 ?_
    case hyr1023 =>
      intro w' hSw
      try dsimp only at hSw
      go_simp
      all_goals with_reducible rfl
    try simp only [Act.put]
    refine wpAnyB_take (i := 23) (oi := _) (v := ?vvr1024) (fun w' => w'.cell? ⟨W.heap.size, 0, none⟩ = some (.pointer (some ⟨g, 0, none⟩)) ∧ w'.cell? ⟨w1.heap.size, 0, none⟩ = some (.int .i64 hands) ∧ w'.cell? ⟨w1.heap.size, 1, none⟩ = some (.int .i64 (wn : Int)) ∧ w'.cell? ⟨w1.heap.size, 2, none⟩ = some (.int .i64 (xn : Int)) ∧ w'.cell? ⟨w1.heap.size, 3, none⟩ = some (.int .i64 (pn : Int)) ∧ w'.cell? ⟨g, 5, none⟩ = some (.slice VA z.works.length vc) ∧ w'.cell? ⟨g, 7, none⟩ = some (.slice XA z.xs.length xc) ∧ w'.cell? ⟨g, 8, none⟩ = some (.slice PA z.ps.length pc)) rfl (by kernel_rfl) (by kernel_rfl) (by kernel_rfl) (by kernel_rfl) (by rfl) (fun _ h => ⟨h.1, h.2.1, h.2.2.1, h.2.2.2.1, h.2.2.2.2.1, h.2.2.2.2.2 rfl⟩) (.inr (by kernel_rfl)) (fun _ _ _ h => h) (.inl ⟨by rfl, ?hyr1024⟩) hSSr10 ?_
    case hyr1024 =>
      intro w' hSw
      try dsimp only at hSw
      go_simp
      all_goals with_reducible rfl
    try simp only [Act.put]
    refine wpAnyB_take (i := 24) (oi := _) (v := ?vvr1025) (fun w' => w'.cell? ⟨W.heap.size, 0, none⟩ = some (.pointer (some ⟨g, 0, none⟩)) ∧ w'.cell? ⟨w1.heap.size, 0, none⟩ = some (.int .i64 hands) ∧ w'.cell? ⟨w1.heap.size, 1, none⟩ = some (.int .i64 (wn : Int)) ∧ w'.cell? ⟨w1.heap.size, 2, none⟩ = some (.int .i64 (xn : Int)) ∧ w'.cell? ⟨w1.heap.size, 3, none⟩ = some (.int .i64 (pn : Int))) rfl (by kernel_rfl) (by kernel_rfl) (by kernel_rfl) (by kernel_rfl) (by rfl) (fun _ h => ⟨h.1, h.2.1, h.2.2.1, h.2.2.2.1, h.2.2.2.2.1⟩) (.inl fun _ h => ⟨h.1, h.2.1, h.2.2.1, h.2.2.2.1, h.2.2.2.2.1⟩) (fun _ _ _ h => h) (.inl ⟨by rfl, ?hyr1025⟩) hSSr10 ?_
    case hyr1025 =>
      intro w' hSw
      try dsimp only at hSw
      go_simp
      all_goals with_reducible rfl
    try simp only [Act.put]
    refine wpAnyB_take (i := 25) (oi := _) (v := ?vvr1026) (fun w' => w'.cell? ⟨W.heap.size, 0, none⟩ = some (.pointer (some ⟨g, 0, none⟩)) ∧ w'.cell? ⟨w1.heap.size, 0, none⟩ = some (.int .i64 hands) ∧ w'.cell? ⟨w1.heap.size, 1, none⟩ = some (.int .i64 (wn : Int)) ∧ w'.cell? ⟨w1.heap.size, 2, none⟩ = some (.int .i64 (xn : Int)) ∧ w'.cell? ⟨w1.heap.size, 3, none⟩ = some (.int .i64 (pn : Int))) rfl (by kernel_rfl) (by kernel_rfl) (by kernel_rfl) (by kernel_rfl) (by rfl) (fun _ h => ⟨h.1, h.2.1, h.2.2.1, h.2.2.2.1, h.2.2.2.2.1⟩) (.inl fun _ h => ⟨h.1, h.2.1, h.2.2.1, h.2.2.2.1, h.2.2.2.2.1⟩) (fun _ _ _ h => h) (.inl ⟨by rfl, ?hyr1026⟩) hSSr10 ?_
    case hyr1026 =>
      intro w' hSw
      try dsimp only at hSw
      go_simp
      all_goals with_reducible rfl
    try simp only [Act.put]
    refine wpAnyB_take (i := 26) (oi := _) (v := ?vvr1027) (fun w' => w'.cell? ⟨W.heap.size, 0, none⟩ = some (.pointer (some ⟨g, 0, none⟩)) ∧ w'.cell? ⟨w1.heap.size, 0, none⟩ = some (.int .i64 hands) ∧ w'.cell? ⟨w1.heap.size, 1, none⟩ = some (.int .i64 (wn : Int)) ∧ w'.cell? ⟨w1.heap.size, 2, none⟩ = some (.int .i64 (xn : Int)) ∧ w'.cell? ⟨w1.heap.size, 3, none⟩ = some (.int .i64 (pn : Int))) rfl (by kernel_rfl) (by kernel_rfl) (by kernel_rfl) (by kernel_rfl) (by rfl) (fun _ h => ⟨h.1, h.2.1, h.2.2.1, h.2.2.2.1, h.2.2.2.2.1⟩) (.inl fun _ h => ⟨h.1, h.2.1, h.2.2.1, h.2.2.2.1, h.2.2.2.2.1⟩) (fun _ _ _ h => h) (.inl ⟨by rfl, ?hyr1027⟩) hSSr10 ?_
    case hyr1027 =>
      intro w' hSw
      try dsimp only at hSw
      go_simp
      all_goals with_reducible rfl
    try simp only [Act.put]
    refine wpAnyB_one (i := 27) false rfl (by kernel_rfl) (by kernel_rfl) ?_
    intro KK hKK
    go_simp
    refine hKK.out _ _ ⟨p0, d0, d1, d2, d3, fun _ => ⟨c5, c7, c8⟩⟩ ?_
    clear hKK KK
    try simp only [Act.put, List.setIfInBounds_toArray, List.set_cons_zero, List.set_cons_succ]
    refine wpAnyB_one (i := 28) false rfl (by kernel_rfl) (by kernel_rfl) ?_
    intro KK hKK
    go_simp
    refine hKK.out _ _ ⟨p0, d0, d1, d2, d3, fun _ => ⟨c5, c7, c8⟩⟩ ?_
    clear hKK KK
    try simp only [Act.put, List.setIfInBounds_toArray, List.set_cons_zero, List.set_cons_succ]
    refine wpAnyB_one (i := 29) true rfl (by kernel_rfl) (by kernel_rfl) ?_
    intro KK hKK
    have ff2 := ff 2
    go_simp
    clear ff2
    refine hKK.out _ _ ⟨(cell_far p0 (fun e => n1 e.symm)), (cell_far d0 (fun e => n2 e.symm)), (cell_far d1 (fun e => n2 e.symm)), (cell_far d2 (fun e => n2 e.symm)), (cell_far d3 (fun e => n2 e.symm)), fun hh => by cases hh⟩ ?_
    clear hKK KK
    try simp only [Act.put, List.setIfInBounds_toArray, List.set_cons_zero, List.set_cons_succ]
    refine wpAnyB_one (i := 30) true rfl (by kernel_rfl) (by kernel_rfl) ?_
    intro KK hKK
    go_simp
    refine hKK.out _ _ ⟨(cell_far p0 (fun e => n1 e.symm)), (cell_far d0 (fun e => n2 e.symm)), (cell_far d1 (fun e => n2 e.symm)), (cell_far d2 (fun e => n2 e.symm)), (cell_far d3 (fun e => n2 e.symm)), fun hh => by cases hh⟩ ?_
    clear hKK KK
    try simp only [Act.put, List.setIfInBounds_toArray, List.set_cons_zero, List.set_cons_succ]
    refine wpAnyB_one (i := 31) true rfl (by kernel_rfl) (by kernel_rfl) ?_
    intro KK hKK
    go_simp
    refine hKK.out _ _ ⟨(cell_far p0 (fun e => n1 e.symm)), (cell_far d0 (fun e => n2 e.symm)), (cell_far d1 (fun e => n2 e.symm)), (cell_far d2 (fun e => n2 e.symm)), (cell_far d3 (fun e => n2 e.symm)), fun hh => by cases hh⟩ ?_
    clear hKK KK
    try simp only [Act.put, List.setIfInBounds_toArray, List.set_cons_zero, List.set_cons_succ]
    refine wpAnyB_one (i := 32) true rfl (by kernel_rfl) (by kernel_rfl) ?_
    intro KK hKK
    have ff2 := ff 5
    go_simp
    clear ff2
    refine hKK.out _ _ ⟨(cell_far (cell_far p0 (fun e => n1 e.symm)) (fun e => n1 e.symm)), (cell_far (cell_far d0 (fun e => n2 e.symm)) (fun e => n2 e.symm)), (cell_far (cell_far d1 (fun e => n2 e.symm)) (fun e => n2 e.symm)), (cell_far (cell_far d2 (fun e => n2 e.symm)) (fun e => n2 e.symm)), (cell_far (cell_far d3 (fun e => n2 e.symm)) (fun e => n2 e.symm)), fun hh => by cases hh⟩ ?_
    clear hKK KK
    try simp only [Act.put, List.setIfInBounds_toArray, List.set_cons_zero, List.set_cons_succ]
    refine wpAnyB_one (i := 33) true rfl (by kernel_rfl) (by kernel_rfl) ?_
    intro KK hKK
    go_simp
    refine hKK.out _ _ ⟨(cell_far (cell_far p0 (fun e => n1 e.symm)) (fun e => n1 e.symm)), (cell_far (cell_far d0 (fun e => n2 e.symm)) (fun e => n2 e.symm)), (cell_far (cell_far d1 (fun e => n2 e.symm)) (fun e => n2 e.symm)), (cell_far (cell_far d2 (fun e => n2 e.symm)) (fun e => n2 e.symm)), (cell_far (cell_far d3 (fun e => n2 e.symm)) (fun e => n2 e.symm)), fun hh => by cases hh⟩ ?_
    clear hKK KK
    try simp only [Act.put, List.setIfInBounds_toArray, List.set_cons_zero, List.set_cons_succ]
    refine wpAnyB_one (i := 34) true rfl (by kernel_rfl) (by kernel_rfl) ?_
    intro KK hKK
    go_simp
    refine hKK.out _ _ ⟨(cell_far (cell_far p0 (fun e => n1 e.symm)) (fun e => n1 e.symm)), (cell_far (cell_far d0 (fun e => n2 e.symm)) (fun e => n2 e.symm)), (cell_far (cell_far d1 (fun e => n2 e.symm)) (fun e => n2 e.symm)), (cell_far (cell_far d2 (fun e => n2 e.symm)) (fun e => n2 e.symm)), (cell_far (cell_far d3 (fun e => n2 e.symm)) (fun e => n2 e.symm)), fun hh => by cases hh⟩ ?_
    clear hKK KK
    try simp only [Act.put, List.setIfInBounds_toArray, List.set_cons_zero, List.set_cons_succ]
    refine wpAnyB_one (i := 35) true rfl (by kernel_rfl) (by kernel_rfl) ?_
    intro KK hKK
    have ff2 := ff 7
    go_simp
    clear ff2
    refine hKK.out _ _ ⟨(cell_far (cell_far (cell_far p0 (fun e => n1 e.symm)) (fun e => n1 e.symm)) (fun e => n1 e.symm)), (cell_far (cell_far (cell_far d0 (fun e => n2 e.symm)) (fun e => n2 e.symm)) (fun e => n2 e.symm)), (cell_far (cell_far (cell_far d1 (fun e => n2 e.symm)) (fun e => n2 e.symm)) (fun e => n2 e.symm)), (cell_far (cell_far (cell_far d2 (fun e => n2 e.symm)) (fun e => n2 e.symm)) (fun e => n2 e.symm)), (cell_far (cell_far (cell_far d3 (fun e => n2 e.symm)) (fun e => n2 e.symm)) (fun e => n2 e.symm)), fun hh => by cases hh⟩ ?_
    clear hKK KK
    try simp only [Act.put, List.setIfInBounds_toArray, List.set_cons_zero, List.set_cons_succ]
    refine wpAnyB_one (i := 36) true rfl (by kernel_rfl) (by kernel_rfl) ?_
    intro KK hKK
    go_simp
    refine hKK.out _ _ ⟨(cell_far (cell_far (cell_far p0 (fun e => n1 e.symm)) (fun e => n1 e.symm)) (fun e => n1 e.symm)), (cell_far (cell_far (cell_far d0 (fun e => n2 e.symm)) (fun e => n2 e.symm)) (fun e => n2 e.symm)), (cell_far (cell_far (cell_far d1 (fun e => n2 e.symm)) (fun e => n2 e.symm)) (fun e => n2 e.symm)), (cell_far (cell_far (cell_far d2 (fun e => n2 e.symm)) (fun e => n2 e.symm)) (fun e => n2 e.symm)), (cell_far (cell_far (cell_far d3 (fun e => n2 e.symm)) (fun e => n2 e.symm)) (fun e => n2 e.symm)), fun hh => by cases hh⟩ ?_
    clear hKK KK
    try simp only [Act.put, List.setIfInBounds_toArray, List.set_cons_zero, List.set_cons_succ]
    refine wpAnyB_one (i := 37) true rfl (by kernel_rfl) (by kernel_rfl) ?_
    intro KK hKK
    go_simp
    refine hKK.out _ _ ⟨(cell_far (cell_far (cell_far p0 (fun e => n1 e.symm)) (fun e => n1 e.symm)) (fun e => n1 e.symm)), (cell_far (cell_far (cell_far d0 (fun e => n2 e.symm)) (fun e => n2 e.symm)) (fun e => n2 e.symm)), (cell_far (cell_far (cell_far d1 (fun e => n2 e.symm)) (fun e => n2 e.symm)) (fun e => n2 e.symm)), (cell_far (cell_far (cell_far d2 (fun e => n2 e.symm)) (fun e => n2 e.symm)) (fun e => n2 e.symm)), (cell_far (cell_far (cell_far d3 (fun e => n2 e.symm)) (fun e => n2 e.symm)) (fun e => n2 e.symm)), fun hh => by cases hh⟩ ?_
    clear hKK KK
    try simp only [Act.put, List.setIfInBounds_toArray, List.set_cons_zero, List.set_cons_succ]
    refine wpAnyB_one (i := 38) true rfl (by kernel_rfl) (by kernel_rfl) ?_
    intro KK hKK
    have ff2 := ff 8
    go_simp
    clear ff2
    refine hKK.out _ _ ⟨(cell_far (cell_far (cell_far (cell_far p0 (fun e => n1 e.symm)) (fun e => n1 e.symm)) (fun e => n1 e.symm)) (fun e => n1 e.symm)), (cell_far (cell_far (cell_far (cell_far d0 (fun e => n2 e.symm)) (fun e => n2 e.symm)) (fun e => n2 e.symm)) (fun e => n2 e.symm)), (cell_far (cell_far (cell_far (cell_far d1 (fun e => n2 e.symm)) (fun e => n2 e.symm)) (fun e => n2 e.symm)) (fun e => n2 e.symm)), (cell_far (cell_far (cell_far (cell_far d2 (fun e => n2 e.symm)) (fun e => n2 e.symm)) (fun e => n2 e.symm)) (fun e => n2 e.symm)), (cell_far (cell_far (cell_far (cell_far d3 (fun e => n2 e.symm)) (fun e => n2 e.symm)) (fun e => n2 e.symm)) (fun e => n2 e.symm)), fun hh => by cases hh⟩ ?_
    clear hKK KK
    try simp only [Act.put, List.setIfInBounds_toArray, List.set_cons_zero, List.set_cons_succ]
    refine wpAnyB_done (by kernel_rfl) (NoPanic.normal ?_) _
    obtain ⟨W5, hW5⟩ : ∃ W5, W5 = ((((W4.setCell ⟨g, 2, none⟩ (.int .i64 hands)).setCell ⟨g, 5, none⟩ (.slice VA wn vc)).setCell ⟨g, 7, none⟩ (.slice XA xn xc)).setCell ⟨g, 8, none⟩ (.slice PA pn pc)).drew := ⟨_, rfl⟩
    rewrite [← hW5]
    have H5 := Lib.hid ((((((H4.out.head 2 (show 2 < 3 by omega) (.int .i64 hands)).cut (i := 2) rfl (A := VA) (c := vc) (m := wn) rfl hwn 5 rfl).cut (i := 4) rfl (A := XA) (c := xc) (m := xn) rfl hxn 7 rfl).cut (i := 5) rfl (A := PA) (c := pc) (m := pn) rfl hpn 8 rfl)).drew)
    have KB5 : Hid (KeepB (fun r => r = g) W4 W5) := by
      rw [hW5]
      exact ((((KeepB.set (S := fun r => r = g) W4 rfl 2 _).trans (KeepB.set (S := fun r => r = g) _ rfl 5 _)).trans (KeepB.set (S := fun r => r = g) _ rfl 7 _)).trans (KeepB.set (S := fun r => r = g) _ rfl 8 _)).drew
    rw [← hW5] at H5
    have p5 : W5.cell? ⟨W.heap.size, 0, none⟩ = some (.pointer (some ⟨g, 0, none⟩)) := (cell_same (a := ⟨W.heap.size, 0, none⟩) (KB5.out.block _ q4 (fun e => n1 e.symm))).trans p0
    have e3 : W5.cell? ⟨g, 3, none⟩ = some (.slice SA z.steps.length sc) := RowsH.cell H5.out 3
    have e4 : W5.cell? ⟨g, 4, none⟩ = some (.slice (some ⟨bm, om, none⟩) z.marks.length mc) := RowsH.cell H5.out 4
    have ff := fun i => H5.out.c.free i
    have hg5 := H5.out.c.lt
    have q6 : W.heap.size < W5.heap.size := by have := KB5.out.size; omega
    clear d0 d1 d2 d3 c2 c3 c4 c5 c7 c8 hsV hsX hsP hW5 p0
    go_wp2
    refine wp_region_noPanic ?_
    refine wp_region_B (fun b w' => w'.cell? ⟨W.heap.size, 0, none⟩ = some (.pointer (some ⟨g, 0, none⟩)) ∧ (b = false → w'.cell? ⟨g, 3, none⟩ = some (.slice SA z.steps.length sc) ∧ w'.cell? ⟨g, 4, none⟩ = some (.slice (some ⟨bm, om, none⟩) z.marks.length mc))) 16 (by kernel_rfl) ?_
    have hSSr11 : (fun b w' => w'.cell? ⟨W.heap.size, 0, none⟩ = some (.pointer (some ⟨g, 0, none⟩)) ∧ (b = false → w'.cell? ⟨g, 3, none⟩ = some (.slice SA z.steps.length sc) ∧ w'.cell? ⟨g, 4, none⟩ = some (.slice (some ⟨bm, om, none⟩) z.marks.length mc))) false (W5.drew) := ⟨p5, fun _ => ⟨e3, e4⟩⟩
    refine wpAnyB_take (i := 0) (oi := _) (v := ?vvr111) (fun w' => w'.cell? ⟨W.heap.size, 0, none⟩ = some (.pointer (some ⟨g, 0, none⟩))) rfl (by kernel_rfl) (by kernel_rfl) (by kernel_rfl) (by kernel_rfl) (by rfl) (fun _ h => h.1) (.inl fun _ h => h.1) (fun _ _ _ h => h) (.inl ⟨by rfl, ?hyr111⟩) hSSr11 ?_
    case hyr111 =>
      intro w' hSw
      try dsimp only at hSw
      go_simp
      all_goals with_reducible rfl
    try simp only [Act.put, List.setIfInBounds_toArray]
    refine wpAnyB_take (i := 1) (oi := _) (v := ?vvr112) (fun w' => w'.cell? ⟨W.heap.size, 0, none⟩ = some (.pointer (some ⟨g, 0, none⟩))) rfl (by kernel_rfl) (by kernel_rfl) (by kernel_rfl) (by kernel_rfl) (by rfl) (fun _ h => h.1) (.inl fun _ h => h.1) (fun _ _ _ h => h) (.inl ⟨by rfl, ?hyr112⟩) hSSr11 ?_
    case hyr112 =>
      intro w' hSw
      try dsimp only at hSw
      go_simp
      all_goals with_reducible rfl
    try simp only [Act.put]
    refine wpAnyB_take (i := 2) (oi := _) (v := ?vvr113) (fun w' => w'.cell? ⟨W.heap.size, 0, none⟩ = some (.pointer (some ⟨g, 0, none⟩))) rfl (by kernel_rfl) (by kernel_rfl) (by kernel_rfl) (by kernel_rfl) (by rfl) (fun _ h => h.1) (.inl fun _ h => h.1) (fun _ _ _ h => h) (.inl ⟨by rfl, ?hyr113⟩) hSSr11 ?_
    case hyr113 =>
      intro w' hSw
      try dsimp only at hSw
      go_simp
      all_goals with_reducible rfl
    try simp only [Act.put]
    refine wpAnyB_take (i := 3) (oi := _) (v := ?vvr114) (fun w' => w'.cell? ⟨W.heap.size, 0, none⟩ = some (.pointer (some ⟨g, 0, none⟩))) rfl (by kernel_rfl) (by kernel_rfl) (by kernel_rfl) (by kernel_rfl) (by rfl) (fun _ h => h.1) (.inl fun _ h => h.1) (fun _ _ _ h => h) (.inl ⟨by rfl, ?hyr114⟩) hSSr11 ?_
    case hyr114 =>
      intro w' hSw
      try dsimp only at hSw
      go_simp
      all_goals with_reducible rfl
    try simp only [Act.put]
    refine wpAnyB_take (i := 4) (oi := _) (v := ?vvr115) (fun w' => w'.cell? ⟨W.heap.size, 0, none⟩ = some (.pointer (some ⟨g, 0, none⟩))) rfl (by kernel_rfl) (by kernel_rfl) (by kernel_rfl) (by kernel_rfl) (by rfl) (fun _ h => h.1) (.inl fun _ h => h.1) (fun _ _ _ h => h) (.inl ⟨by rfl, ?hyr115⟩) hSSr11 ?_
    case hyr115 =>
      intro w' hSw
      try dsimp only at hSw
      go_simp
      all_goals with_reducible rfl
    try simp only [Act.put]
    refine wpAnyB_take (i := 5) (oi := _) (v := ?vvr116) (fun w' => w'.cell? ⟨W.heap.size, 0, none⟩ = some (.pointer (some ⟨g, 0, none⟩)) ∧ w'.cell? ⟨g, 3, none⟩ = some (.slice SA z.steps.length sc) ∧ w'.cell? ⟨g, 4, none⟩ = some (.slice (some ⟨bm, om, none⟩) z.marks.length mc)) rfl (by kernel_rfl) (by kernel_rfl) (by kernel_rfl) (by kernel_rfl) (by rfl) (fun _ h => ⟨h.1, h.2 rfl⟩) (.inr (by kernel_rfl)) (fun _ _ _ h => h) (.inl ⟨by rfl, ?hyr116⟩) hSSr11 ?_
    case hyr116 =>
      intro w' hSw
      try dsimp only at hSw
      go_simp
      all_goals with_reducible rfl
    try simp only [Act.put]
    refine wpAnyB_take (i := 6) (oi := _) (v := ?vvr117) (fun w' => w'.cell? ⟨W.heap.size, 0, none⟩ = some (.pointer (some ⟨g, 0, none⟩))) rfl (by kernel_rfl) (by kernel_rfl) (by kernel_rfl) (by kernel_rfl) (by rfl) (fun _ h => h.1) (.inl fun _ h => h.1) (fun _ _ _ h => h) (.inl ⟨by rfl, ?hyr117⟩) hSSr11 ?_
    case hyr117 =>
      intro w' hSw
      try dsimp only at hSw
      go_simp
      all_goals with_reducible rfl
    try simp only [Act.put]
    refine wpAnyB_take (i := 7) (oi := _) (v := ?vvr118) (fun w' => w'.cell? ⟨W.heap.size, 0, none⟩ = some (.pointer (some ⟨g, 0, none⟩))) rfl (by kernel_rfl) (by kernel_rfl) (by kernel_rfl) (by kernel_rfl) (by rfl) (fun _ h => h.1) (.inl fun _ h => h.1) (fun _ _ _ h => h) (.inl ⟨by rfl, ?hyr118⟩) hSSr11 ?_
    case hyr118 =>
      intro w' hSw
      try dsimp only at hSw
      go_simp
      all_goals with_reducible rfl
    try simp only [Act.put]
    refine wpAnyB_take (i := 8) (oi := _) (v := ?vvr119) (fun w' => w'.cell? ⟨W.heap.size, 0, none⟩ = some (.pointer (some ⟨g, 0, none⟩))) rfl (by kernel_rfl) (by kernel_rfl) (by kernel_rfl) (by kernel_rfl) (by rfl) (fun _ h => h.1) (.inl fun _ h => h.1) (fun _ _ _ h => h) (.inl ⟨by rfl, ?hyr119⟩) hSSr11 ?_
    case hyr119 =>
      intro w' hSw
      try dsimp only at hSw
      go_simp
      all_goals with_reducible rfl
    try simp only [Act.put]
    refine wpAnyB_take (i := 9) (oi := _) (v := ?vvr1110) (fun w' => w'.cell? ⟨W.heap.size, 0, none⟩ = some (.pointer (some ⟨g, 0, none⟩))) rfl (by kernel_rfl) (by kernel_rfl) (by kernel_rfl) (by kernel_rfl) (by rfl) (fun _ h => h.1) (.inl fun _ h => h.1) (fun _ _ _ h => h) (.inl ⟨by rfl, ?hyr1110⟩) hSSr11 ?_
    case hyr1110 =>
      intro w' hSw
      try dsimp only at hSw
      go_simp
      all_goals with_reducible rfl
    try simp only [Act.put]
    refine wpAnyB_take (i := 10) (oi := _) (v := ?vvr1111) (fun w' => w'.cell? ⟨W.heap.size, 0, none⟩ = some (.pointer (some ⟨g, 0, none⟩))) rfl (by kernel_rfl) (by kernel_rfl) (by kernel_rfl) (by kernel_rfl) (by rfl) (fun _ h => h.1) (.inl fun _ h => h.1) (fun _ _ _ h => h) (.inl ⟨by rfl, ?hyr1111⟩) hSSr11 ?_
    case hyr1111 =>
      intro w' hSw
      try dsimp only at hSw
      go_simp
      all_goals with_reducible rfl
    try simp only [Act.put]
    refine wpAnyB_take (i := 11) (oi := _) (v := ?vvr1112) (fun w' => w'.cell? ⟨W.heap.size, 0, none⟩ = some (.pointer (some ⟨g, 0, none⟩)) ∧ w'.cell? ⟨g, 3, none⟩ = some (.slice SA z.steps.length sc) ∧ w'.cell? ⟨g, 4, none⟩ = some (.slice (some ⟨bm, om, none⟩) z.marks.length mc)) rfl (by kernel_rfl) (by kernel_rfl) (by kernel_rfl) (by kernel_rfl) (by rfl) (fun _ h => ⟨h.1, h.2 rfl⟩) (.inr (by kernel_rfl)) (fun _ _ _ h => h) (.inl ⟨by rfl, ?hyr1112⟩) hSSr11 ?_
    case hyr1112 =>
      intro w' hSw
      try dsimp only at hSw
      go_simp
      all_goals with_reducible rfl
    try simp only [Act.put]
    refine wpAnyB_take (i := 12) (oi := _) (v := ?vvr1113) (fun w' => w'.cell? ⟨W.heap.size, 0, none⟩ = some (.pointer (some ⟨g, 0, none⟩))) rfl (by kernel_rfl) (by kernel_rfl) (by kernel_rfl) (by kernel_rfl) (by rfl) (fun _ h => h.1) (.inl fun _ h => h.1) (fun _ _ _ h => h) (.inl ⟨by rfl, ?hyr1113⟩) hSSr11 ?_
    case hyr1113 =>
      intro w' hSw
      try dsimp only at hSw
      go_simp
      all_goals with_reducible rfl
    try simp only [Act.put]
    refine wpAnyB_take (i := 13) (oi := _) (v := ?vvr1114) (fun w' => w'.cell? ⟨W.heap.size, 0, none⟩ = some (.pointer (some ⟨g, 0, none⟩))) rfl (by kernel_rfl) (by kernel_rfl) (by kernel_rfl) (by kernel_rfl) (by rfl) (fun _ h => h.1) (.inl fun _ h => h.1) (fun _ _ _ h => h) (.inl ⟨by rfl, ?hyr1114⟩) hSSr11 ?_
    case hyr1114 =>
      intro w' hSw
      try dsimp only at hSw
      go_simp
      all_goals with_reducible rfl
    try simp only [Act.put]
    refine wpAnyB_one (i := 14) false rfl (by kernel_rfl) (by kernel_rfl) ?_
    intro KK hKK
    go_simp
    refine hKK.out _ _ ⟨p5, fun _ => ⟨e3, e4⟩⟩ ?_
    clear hKK KK
    try simp only [Act.put, List.setIfInBounds_toArray, List.set_cons_zero, List.set_cons_succ]
    refine wpAnyB_one (i := 15) false rfl (by kernel_rfl) (by kernel_rfl) ?_
    intro KK hKK
    go_simp
    refine hKK.out _ _ ⟨p5, fun _ => ⟨e3, e4⟩⟩ ?_
    clear hKK KK
    try simp only [Act.put, List.setIfInBounds_toArray, List.set_cons_zero, List.set_cons_succ]
    refine wpAnyB_one (i := 16) true rfl (by kernel_rfl) (by kernel_rfl) ?_
    intro KK hKK
    have ff3 := ff 3
    go_simp
    clear ff3
    refine hKK.out _ _ ⟨(cell_far p5 (fun e => n1 e.symm)), fun hh => by cases hh⟩ ?_
    clear hKK KK
    try simp only [Act.put, List.setIfInBounds_toArray, List.set_cons_zero, List.set_cons_succ]
    refine wpAnyB_one (i := 17) true rfl (by kernel_rfl) (by kernel_rfl) ?_
    intro KK hKK
    go_simp
    refine hKK.out _ _ ⟨(cell_far p5 (fun e => n1 e.symm)), fun hh => by cases hh⟩ ?_
    clear hKK KK
    try simp only [Act.put, List.setIfInBounds_toArray, List.set_cons_zero, List.set_cons_succ]
    refine wpAnyB_one (i := 18) true rfl (by kernel_rfl) (by kernel_rfl) ?_
    intro KK hKK
    go_simp
    refine hKK.out _ _ ⟨(cell_far p5 (fun e => n1 e.symm)), fun hh => by cases hh⟩ ?_
    clear hKK KK
    try simp only [Act.put, List.setIfInBounds_toArray, List.set_cons_zero, List.set_cons_succ]
    refine wpAnyB_one (i := 19) true rfl (by kernel_rfl) (by kernel_rfl) ?_
    intro KK hKK
    have ff3 := ff 4
    go_simp
    clear ff3
    refine hKK.out _ _ ⟨(cell_far (cell_far p5 (fun e => n1 e.symm)) (fun e => n1 e.symm)), fun hh => by cases hh⟩ ?_
    clear hKK KK
    try simp only [Act.put, List.setIfInBounds_toArray, List.set_cons_zero, List.set_cons_succ]
    refine wpAnyB_done (by kernel_rfl) (NoPanic.normal ?_) _
    go_wp2
    have hdd : (((W5.setCell ⟨g, 3, none⟩ (.slice SA k sc)).setCell ⟨g, 4, none⟩ (.slice (some ⟨bm, om, none⟩) k mc)).drew).heap[D]? = some (.deferred (some [])) :=
      (Below.heap_setCell _ _ _ _ (fun e => hgD e.symm)).trans ((Below.heap_setCell _ _ _ _ (fun e => hgD e.symm)).trans ((KB5.out.block D (Array.getElem?_eq_some_iff.1 hD4.out).1 (fun e => hgD e.symm)).trans hD4.out))
    refine postB_mark1 rfl rfl rfl hdd ?_
    have hks := HK.out
    have H6 := ((H5.out.cut (i := 0) rfl (A := SA) (c := sc) (m := k) rfl (show k ≤ z.steps.length by omega) 3 rfl).cut (i := 1) rfl (A := some ⟨bm, om, none⟩) (c := mc) (m := k) rfl (show k ≤ z.marks.length by omega) 4 rfl).drew
    obtain ⟨W6, hW6⟩ : ∃ W6, W6 = ((W5.setCell ⟨g, 3, none⟩ (.slice SA k sc)).setCell ⟨g, 4, none⟩ (.slice (some ⟨bm, om, none⟩) k mc)).drew := ⟨_, rfl⟩
    have KB6 : KeepB (fun r => r = g) W5 W6 := by
      rw [hW6]
      exact ((KeepB.set (S := fun r => r = g) W5 rfl 3 _).trans (KeepB.set (S := fun r => r = g) _ rfl 4 _)).drew
    rw [← hW6] at H6 hdd
    rewrite [← hW6]
    have HP : KeepB (fun r => r = D) W6 (W6.putObj D (.deferred none)) := ⟨rfl, rfl, rfl, Nat.le_of_eq (by simp [World.putObj]), fun r _ hn => World.putObj_heap_other hn⟩
    have H7 := H6.keep HP hgD (fun i r b hi hb e => by
      subst e
      obtain ⟨cs, hc⟩ := own_cellsB (H6.o i r hi) hb
      rw [hc] at hdd
      cases hdd)
    refine ⟨rfl, ⟨Value.slice SA k sc, Value.slice (some ⟨bm, om, none⟩) k mc, Value.slice VA wn vc, Value.slice (some ⟨lb, 0, none⟩) z.l.length lc, Value.slice XA xn xc, Value.slice PA pn pc, ?_⟩, ?_⟩
    · have hr : pilRows (z.back k wn xn pn hands) (.slice SA k sc) (.slice (some ⟨bm, om, none⟩) k mc) (.slice VA wn vc) (.slice (some ⟨lb, 0, none⟩) z.l.length lc) (.slice XA xn xc) (.slice PA pn pc) =
          [⟨35, 3, .slice SA k sc, k, (wksCells z.steps).take (k * 3)⟩, ⟨83, 4, .slice (some ⟨bm, om, none⟩) k mc, k, (qsC z.marks).take (k * 4)⟩, ⟨86, 3, .slice VA wn vc, wn, (wksCells z.works).take (wn * 3)⟩,
           ⟨3, 1, .slice (some ⟨lb, 0, none⟩) z.l.length lc, z.l.length, ((z.xs.drop xn).reverse.foldl crLine z.l).map vInt⟩, ⟨47, 4, .slice XA xn xc, xn, (qsC z.xs).take (xn * 4)⟩, ⟨91, 6, .slice PA pn pc, pn, (pnsC z.ps).take (pn * 6)⟩] := by
        unfold pilRows Pil.back
        simp only [List.length_take, foldl_cr_len]
        rw [Nat.min_eq_left (show k ≤ z.steps.length by omega), Nat.min_eq_left (show k ≤ z.marks.length by omega), Nat.min_eq_left hwn, Nat.min_eq_left hxn, Nat.min_eq_left hpn, wksCells_take _ _ (show k ≤ z.steps.length by omega), wksCells_take _ _ hwn, qsC_take, qsC_take, pnsC_take]
      show RowsH _ _ _ _ _ _
      rw [hr]
      exact H7
    · have k3 : KeepB (blkV g [.slice SA z.steps.length sc, .slice (some ⟨bm, om, none⟩) z.marks.length mc, .slice VA z.works.length vc, .slice (some ⟨lb, 0, none⟩) z.l.length lc, .slice XA z.xs.length xc, .slice PA z.ps.length pc]) W w3 := KeepB.of_below BW3.out
      have k4 := k3.trans (KB4.out.mono (fun r e => by rw [e]; exact .inr ⟨.slice (some ⟨lb, 0, none⟩) z.l.length lc, by simp, rfl⟩))
      have k5 := k4.trans (KB5.out.mono (fun r e => .inl e))
      have k6 := k5.trans (KB6.mono (fun r e => .inl e))
      exact ⟨k6.os, k6.tape, k6.output, Nat.le_trans k6.size HP.size, fun r hr hn => (HP.block r (Nat.lt_of_lt_of_le hr k6.size) (fun e => by omega)).trans (k6.block r hr hn)⟩
  case rnd =>
    rintro hi l pre ⟨xi, xa, xb, xc2, xd⟩ W' o ⟨kk, hkk, hpre, hxi, hxq⟩ hl htop hI hWl ho
    obtain ⟨t, htb, htl⟩ := HX.out _ (mem_of_get hxq)
    simp only [] at htb
    subst htb
    have hll := (Array.getElem?_eq_some_iff.1 hWl).1
    have hks := hI.keep.size
    have HLL := Lib.hid (lineB_app z.l pre (xi, ⟨xa, (t : Int), xc2, xd⟩))
    have hLn := lineB_len z.l pre
    obtain ⟨la, hla⟩ := get_of_lt (l := lineB z.l pre) (k := t) (by omega)
    obtain ⟨la2, hla2⟩ := get_of_lt (l := lineB z.l pre) (k := t + 1) (by omega)
    have HCR : Hid (crLine (lineB z.l pre) ⟨xa, (t : Int), xc2, xd⟩ = ((lineB z.l pre).set t la2).set (t + 1) la) := by
      show _ = _
      unfold crLine exch
      rw [Int.toNat_natCast, List.getD_eq_getElem?_getD, List.getD_eq_getElem?_getD, hla, hla2]; rfl
    have HB0 := Lib.hid ((K0.out : Has w3 W.heap.size 30 [.pointer (some ⟨g, 0, none⟩)]))
    dsimp only [encB]
    clear hpre hkk hxi hxq
    gi_wp2
    have hW1 : ∀ r, r < W'.heap.size → (W'.alloc (.cells #[.int .i64 xa, .int .i64 (t : Int), .int .i64 xc2, .int .i64 xd] 47)).heap[r]? = W'.heap[r]? := fun r hr => Below.heap_alloc _ _ _ hr
    refine ⟨KeepsOthers.alloc _ _, ⟨by simp, fun r hr _ _ => hW1 r (by omega)⟩, fun o' ho' => ?_⟩
    obtain ⟨Y, hY⟩ : ∃ Y, Y = (W'.alloc (.cells #[.int .i64 xa, .int .i64 (t : Int), .int .i64 xc2, .int .i64 xd] 47)).putObj l o' := ⟨_, rfl⟩
    rewrite [← hY]
    have hYs : Y.heap.size = W'.heap.size + 1 := by rw [hY]; simp [World.putObj]
    have hYk : ∀ r, r < W'.heap.size → r ≠ l → Y.heap[r]? = W'.heap[r]? := fun r hr hne => by rw [hY, World.putObj_heap_other hne]; exact hW1 r hr
    have hYl : Y.heap[l]? = some o' := by rw [hY]; exact World.putObj_heap_same (by simp; omega)
    have hK3 : ∀ r, r < w3.heap.size → r ≠ lb → Y.heap[r]? = w3.heap[r]? := fun r hr hne => (hYk r (by omega) (by omega)).trans (hI.keep.block r hr hne)
    have KC := Lib.hid (show Has Y W'.heap.size 47 [.int .i64 xa, .int .i64 (t : Int), .int .i64 xc2, .int .i64 xd] by
      unfold Has
      rw [hY, World.putObj_heap_other (by omega)]
      exact World.alloc_heap_new _ _)
    have LY : Hid (Y.ownsRow B 3 1 (.slice (some ⟨lb, 0, none⟩) z.l.length lc) z.l.length ((lineB z.l pre).map vInt)) := own_same hI.line (fun r hr => by
      obtain rfl : lb = r := by injection hr
      exact hYk lb (by omega) (by omega))
    have KY : Hid (KeepB (fun q => q = lb) w3 Y) := ⟨by rw [hY]; exact hI.keep.os, by rw [hY]; exact hI.keep.tape, by rw [hY]; exact hI.keep.output, (by have := hks; omega), fun r hr hne => hK3 r hr hne⟩
    have n2 : lb ≠ W.heap.size := by have := hlbW; omega
    have p0 : Y.cell? ⟨W.heap.size, 0, none⟩ = some (.pointer (some ⟨g, 0, none⟩)) := (cell_same (a := ⟨W.heap.size, 0, none⟩) (hK3 _ z7 (fun e => n2 e.symm))).trans (HB0.out.cell 0)
    have c6 : Y.cell? ⟨g, 6, none⟩ = some (.slice (some ⟨lb, 0, none⟩) z.l.length lc) := (cell_same (a := ⟨g, 6, none⟩) (hK3 g H3.out.c.lt hlg)).trans (RowsH.cell H3.out 6)
    have x1 : Y.cell? ⟨W'.heap.size, 1, none⟩ = some (.int .i64 (t : Int)) := KC.out.cell 1
    obtain ⟨gl, e1, _, hgl, y0⟩ := own_at LY.out (j := t) (u := vInt la) (by rw [List.getElem?_map, hla]; rfl)
    obtain ⟨gl2, e2, _, _, y1⟩ := own_at LY.out (j := t + 1) (u := vInt la2) (by rw [List.getElem?_map, hla2]; rfl)
    injection e1 with e1
    injection e1 with e1
    injection e2 with e2
    injection e2 with e2
    subst e1 e2
    have f0 := LY.out.frozenAt t
    have f1 := LY.out.frozenAt (t + 1)
    have i2 : IntKind.i64.wrap ((t : Int) + 1) = (t : Int) + 1 := IntWalk.i64_in _ (by omega)
    have j2 : (t : Int) < (z.l.length : Int) := by omega
    have j3 : (t : Int) + 1 < (z.l.length : Int) := by omega
    have j4 : (0 : Int) ≤ (t : Int) + 1 := by omega
    have j5 : ((t : Int) + 1).toNat = t + 1 := by omega
    have q1 := KC.out.lt
    have q2 : W.heap.size < Y.heap.size := by omega
    have q3 : g < Y.heap.size := by have := H3.out.c.lt; omega
    have n1 : lb ≠ W'.heap.size := by omega
    have n3 : lb ≠ g := fun e => hlg e.symm
    have hYh := Lib.hid hYs
    have hYL := Lib.hid hYl
    clear hY hYk hK3 hI hW1 hla hla2 hYs hYl
    gi_wp2
    have y0' : Y.cell? ⟨lb, t, none⟩ = some (vInt la) := by simpa using y0
    have y1' : Y.cell? ⟨lb, t + 1, none⟩ = some (vInt la2) := by simpa using y1
    refine wpIn_region_B (fun b w' => w'.cell? ⟨W.heap.size, 0, none⟩ = some (.pointer (some ⟨g, 0, none⟩)) ∧ w'.cell? ⟨g, 6, none⟩ = some (.slice (some ⟨lb, 0, none⟩) z.l.length lc) ∧ w'.cell? ⟨W'.heap.size, 1, none⟩ = some (.int .i64 (t : Int)) ∧ (b = false → w'.cell? ⟨lb, t, none⟩ = some (vInt la) ∧ w'.cell? ⟨lb, t + 1, none⟩ = some (vInt la2))) 31 (by kernel_rfl) (by kernel_rfl) (fun h2 => by obtain ⟨_, _, h2⟩ := h2; exact h2) ?_
    have hSSr9 : (fun b w' => w'.cell? ⟨W.heap.size, 0, none⟩ = some (.pointer (some ⟨g, 0, none⟩)) ∧ w'.cell? ⟨g, 6, none⟩ = some (.slice (some ⟨lb, 0, none⟩) z.l.length lc) ∧ w'.cell? ⟨W'.heap.size, 1, none⟩ = some (.int .i64 (t : Int)) ∧ (b = false → w'.cell? ⟨lb, t, none⟩ = some (vInt la) ∧ w'.cell? ⟨lb, t + 1, none⟩ = some (vInt la2))) false (Y.drew) := ⟨p0, c6, x1, fun _ => ⟨y0', y1'⟩⟩
    refine wpAnyB_take (i := 0) (oi := _) (v := ?vvr91) (fun w' => w'.cell? ⟨W.heap.size, 0, none⟩ = some (.pointer (some ⟨g, 0, none⟩)) ∧ w'.cell? ⟨g, 6, none⟩ = some (.slice (some ⟨lb, 0, none⟩) z.l.length lc) ∧ w'.cell? ⟨W'.heap.size, 1, none⟩ = some (.int .i64 (t : Int))) rfl (by kernel_rfl) (by kernel_rfl) (by kernel_rfl) (by kernel_rfl) (by rfl) (fun _ h => ⟨h.1, h.2.1, h.2.2.1⟩) (.inl fun _ h => ⟨h.1, h.2.1, h.2.2.1⟩) (fun _ _ _ h => h) (.inl ⟨by rfl, ?hyr91⟩) hSSr9 ?_
    case hyr91 =>
      intro w' hSw
      try dsimp only at hSw
      go_simp
      all_goals with_reducible rfl
    try simp only [Act.put, List.setIfInBounds_toArray]
    refine wpAnyB_take (i := 1) (oi := _) (v := ?vvr92) (fun w' => w'.cell? ⟨W.heap.size, 0, none⟩ = some (.pointer (some ⟨g, 0, none⟩)) ∧ w'.cell? ⟨g, 6, none⟩ = some (.slice (some ⟨lb, 0, none⟩) z.l.length lc) ∧ w'.cell? ⟨W'.heap.size, 1, none⟩ = some (.int .i64 (t : Int))) rfl (by kernel_rfl) (by kernel_rfl) (by kernel_rfl) (by kernel_rfl) (by rfl) (fun _ h => ⟨h.1, h.2.1, h.2.2.1⟩) (.inl fun _ h => ⟨h.1, h.2.1, h.2.2.1⟩) (fun _ _ _ h => h) (.inl ⟨by rfl, ?hyr92⟩) hSSr9 ?_
    case hyr92 =>
      intro w' hSw
      try dsimp only at hSw
      go_simp
      all_goals with_reducible rfl
    try simp only [Act.put]
    refine wpAnyB_take (i := 2) (oi := _) (v := ?vvr93) (fun w' => w'.cell? ⟨W.heap.size, 0, none⟩ = some (.pointer (some ⟨g, 0, none⟩)) ∧ w'.cell? ⟨g, 6, none⟩ = some (.slice (some ⟨lb, 0, none⟩) z.l.length lc) ∧ w'.cell? ⟨W'.heap.size, 1, none⟩ = some (.int .i64 (t : Int))) rfl (by kernel_rfl) (by kernel_rfl) (by kernel_rfl) (by kernel_rfl) (by rfl) (fun _ h => ⟨h.1, h.2.1, h.2.2.1⟩) (.inl fun _ h => ⟨h.1, h.2.1, h.2.2.1⟩) (fun _ _ _ h => h) (.inl ⟨by rfl, ?hyr93⟩) hSSr9 ?_
    case hyr93 =>
      intro w' hSw
      try dsimp only at hSw
      go_simp
      all_goals with_reducible rfl
    try simp only [Act.put]
    refine wpAnyB_take (i := 3) (oi := _) (v := ?vvr94) (fun w' => w'.cell? ⟨W.heap.size, 0, none⟩ = some (.pointer (some ⟨g, 0, none⟩)) ∧ w'.cell? ⟨g, 6, none⟩ = some (.slice (some ⟨lb, 0, none⟩) z.l.length lc) ∧ w'.cell? ⟨W'.heap.size, 1, none⟩ = some (.int .i64 (t : Int))) rfl (by kernel_rfl) (by kernel_rfl) (by kernel_rfl) (by kernel_rfl) (by rfl) (fun _ h => ⟨h.1, h.2.1, h.2.2.1⟩) (.inl fun _ h => ⟨h.1, h.2.1, h.2.2.1⟩) (fun _ _ _ h => h) (.inl ⟨by rfl, ?hyr94⟩) hSSr9 ?_
    case hyr94 =>
      intro w' hSw
      try dsimp only at hSw
      go_simp
      all_goals with_reducible rfl
    try simp only [Act.put]
    refine wpAnyB_take (i := 4) (oi := _) (v := ?vvr95) (fun w' => w'.cell? ⟨W.heap.size, 0, none⟩ = some (.pointer (some ⟨g, 0, none⟩)) ∧ w'.cell? ⟨g, 6, none⟩ = some (.slice (some ⟨lb, 0, none⟩) z.l.length lc) ∧ w'.cell? ⟨W'.heap.size, 1, none⟩ = some (.int .i64 (t : Int))) rfl (by kernel_rfl) (by kernel_rfl) (by kernel_rfl) (by kernel_rfl) (by rfl) (fun _ h => ⟨h.1, h.2.1, h.2.2.1⟩) (.inl fun _ h => ⟨h.1, h.2.1, h.2.2.1⟩) (fun _ _ _ h => h) (.inl ⟨by rfl, ?hyr95⟩) hSSr9 ?_
    case hyr95 =>
      intro w' hSw
      try dsimp only at hSw
      go_simp
      all_goals with_reducible rfl
    try simp only [Act.put]
    refine wpAnyB_take (i := 5) (oi := _) (v := ?vvr96) (fun w' => w'.cell? ⟨W.heap.size, 0, none⟩ = some (.pointer (some ⟨g, 0, none⟩)) ∧ w'.cell? ⟨g, 6, none⟩ = some (.slice (some ⟨lb, 0, none⟩) z.l.length lc) ∧ w'.cell? ⟨W'.heap.size, 1, none⟩ = some (.int .i64 (t : Int))) rfl (by kernel_rfl) (by kernel_rfl) (by kernel_rfl) (by kernel_rfl) (by rfl) (fun _ h => ⟨h.1, h.2.1, h.2.2.1⟩) (.inl fun _ h => ⟨h.1, h.2.1, h.2.2.1⟩) (fun _ _ _ h => h) (.inl ⟨by rfl, ?hyr96⟩) hSSr9 ?_
    case hyr96 =>
      intro w' hSw
      try dsimp only at hSw
      go_simp
      all_goals with_reducible rfl
    try simp only [Act.put]
    refine wpAnyB_take (i := 6) (oi := _) (v := ?vvr97) (fun w' => w'.cell? ⟨W.heap.size, 0, none⟩ = some (.pointer (some ⟨g, 0, none⟩)) ∧ w'.cell? ⟨g, 6, none⟩ = some (.slice (some ⟨lb, 0, none⟩) z.l.length lc) ∧ w'.cell? ⟨W'.heap.size, 1, none⟩ = some (.int .i64 (t : Int))) rfl (by kernel_rfl) (by kernel_rfl) (by kernel_rfl) (by kernel_rfl) (by rfl) (fun _ h => ⟨h.1, h.2.1, h.2.2.1⟩) (.inl fun _ h => ⟨h.1, h.2.1, h.2.2.1⟩) (fun _ _ _ h => h) (.inl ⟨by rfl, ?hyr97⟩) hSSr9 ?_
    case hyr97 =>
      intro w' hSw
      try dsimp only at hSw
      go_simp
      all_goals with_reducible rfl
    try simp only [Act.put]
    refine wpAnyB_take (i := 7) (oi := _) (v := ?vvr98) (fun w' => w'.cell? ⟨W.heap.size, 0, none⟩ = some (.pointer (some ⟨g, 0, none⟩)) ∧ w'.cell? ⟨g, 6, none⟩ = some (.slice (some ⟨lb, 0, none⟩) z.l.length lc) ∧ w'.cell? ⟨W'.heap.size, 1, none⟩ = some (.int .i64 (t : Int))) rfl (by kernel_rfl) (by kernel_rfl) (by kernel_rfl) (by kernel_rfl) (by rfl) (fun _ h => ⟨h.1, h.2.1, h.2.2.1⟩) (.inl fun _ h => ⟨h.1, h.2.1, h.2.2.1⟩) (fun _ _ _ h => h) (.inl ⟨by rfl, ?hyr98⟩) hSSr9 ?_
    case hyr98 =>
      intro w' hSw
      try dsimp only at hSw
      go_simp
      all_goals with_reducible rfl
    try simp only [Act.put]
    refine wpAnyB_take (i := 8) (oi := _) (v := ?vvr99) (fun w' => w'.cell? ⟨W.heap.size, 0, none⟩ = some (.pointer (some ⟨g, 0, none⟩)) ∧ w'.cell? ⟨g, 6, none⟩ = some (.slice (some ⟨lb, 0, none⟩) z.l.length lc) ∧ w'.cell? ⟨W'.heap.size, 1, none⟩ = some (.int .i64 (t : Int))) rfl (by kernel_rfl) (by kernel_rfl) (by kernel_rfl) (by kernel_rfl) (by rfl) (fun _ h => ⟨h.1, h.2.1, h.2.2.1⟩) (.inl fun _ h => ⟨h.1, h.2.1, h.2.2.1⟩) (fun _ _ _ h => h) (.inl ⟨by rfl, ?hyr99⟩) hSSr9 ?_
    case hyr99 =>
      intro w' hSw
      try dsimp only at hSw
      go_simp
      all_goals with_reducible rfl
    try simp only [Act.put]
    refine wpAnyB_take (i := 9) (oi := _) (v := ?vvr910) (fun w' => w'.cell? ⟨W.heap.size, 0, none⟩ = some (.pointer (some ⟨g, 0, none⟩)) ∧ w'.cell? ⟨g, 6, none⟩ = some (.slice (some ⟨lb, 0, none⟩) z.l.length lc) ∧ w'.cell? ⟨W'.heap.size, 1, none⟩ = some (.int .i64 (t : Int))) rfl (by kernel_rfl) (by kernel_rfl) (by kernel_rfl) (by kernel_rfl) (by rfl) (fun _ h => ⟨h.1, h.2.1, h.2.2.1⟩) (.inl fun _ h => ⟨h.1, h.2.1, h.2.2.1⟩) (fun _ _ _ h => h) (.inl ⟨by rfl, ?hyr910⟩) hSSr9 ?_
    case hyr910 =>
      intro w' hSw
      try dsimp only at hSw
      go_simp
      all_goals with_reducible rfl
    try simp only [Act.put]
    refine wpAnyB_take (i := 10) (oi := _) (v := ?vvr911) (fun w' => w'.cell? ⟨W.heap.size, 0, none⟩ = some (.pointer (some ⟨g, 0, none⟩)) ∧ w'.cell? ⟨g, 6, none⟩ = some (.slice (some ⟨lb, 0, none⟩) z.l.length lc) ∧ w'.cell? ⟨W'.heap.size, 1, none⟩ = some (.int .i64 (t : Int))) rfl (by kernel_rfl) (by kernel_rfl) (by kernel_rfl) (by kernel_rfl) (by rfl) (fun _ h => ⟨h.1, h.2.1, h.2.2.1⟩) (.inl fun _ h => ⟨h.1, h.2.1, h.2.2.1⟩) (fun _ _ _ h => h) (.inl ⟨by rfl, ?hyr911⟩) hSSr9 ?_
    case hyr911 =>
      intro w' hSw
      try dsimp only at hSw
      go_simp
      all_goals with_reducible rfl
    try simp only [Act.put]
    refine wpAnyB_take (i := 11) (oi := _) (v := ?vvr912) (fun w' => w'.cell? ⟨W.heap.size, 0, none⟩ = some (.pointer (some ⟨g, 0, none⟩)) ∧ w'.cell? ⟨g, 6, none⟩ = some (.slice (some ⟨lb, 0, none⟩) z.l.length lc) ∧ w'.cell? ⟨W'.heap.size, 1, none⟩ = some (.int .i64 (t : Int))) rfl (by kernel_rfl) (by kernel_rfl) (by kernel_rfl) (by kernel_rfl) (by rfl) (fun _ h => ⟨h.1, h.2.1, h.2.2.1⟩) (.inl fun _ h => ⟨h.1, h.2.1, h.2.2.1⟩) (fun _ _ _ h => h) (.inl ⟨by rfl, ?hyr912⟩) hSSr9 ?_
    case hyr912 =>
      intro w' hSw
      try dsimp only at hSw
      go_simp
      all_goals with_reducible rfl
    try simp only [Act.put]
    refine wpAnyB_take (i := 12) (oi := _) (v := ?vvr913) (fun w' => w'.cell? ⟨W.heap.size, 0, none⟩ = some (.pointer (some ⟨g, 0, none⟩)) ∧ w'.cell? ⟨g, 6, none⟩ = some (.slice (some ⟨lb, 0, none⟩) z.l.length lc) ∧ w'.cell? ⟨W'.heap.size, 1, none⟩ = some (.int .i64 (t : Int))) rfl (by kernel_rfl) (by kernel_rfl) (by kernel_rfl) (by kernel_rfl) (by rfl) (fun _ h => ⟨h.1, h.2.1, h.2.2.1⟩) (.inl fun _ h => ⟨h.1, h.2.1, h.2.2.1⟩) (fun _ _ _ h => h) (.inl ⟨by rfl, ?hyr913⟩) hSSr9 ?_
    case hyr913 =>
      intro w' hSw
      try dsimp only at hSw
      go_simp
      all_goals with_reducible rfl
    try simp only [Act.put]
    refine wpAnyB_take (i := 13) (oi := _) (v := ?vvr914) (fun w' => w'.cell? ⟨W.heap.size, 0, none⟩ = some (.pointer (some ⟨g, 0, none⟩)) ∧ w'.cell? ⟨g, 6, none⟩ = some (.slice (some ⟨lb, 0, none⟩) z.l.length lc) ∧ w'.cell? ⟨W'.heap.size, 1, none⟩ = some (.int .i64 (t : Int))) rfl (by kernel_rfl) (by kernel_rfl) (by kernel_rfl) (by kernel_rfl) (by rfl) (fun _ h => ⟨h.1, h.2.1, h.2.2.1⟩) (.inl fun _ h => ⟨h.1, h.2.1, h.2.2.1⟩) (fun _ _ _ h => h) (.inl ⟨by rfl, ?hyr914⟩) hSSr9 ?_
    case hyr914 =>
      intro w' hSw
      try dsimp only at hSw
      go_simp
      all_goals with_reducible rfl
    try simp only [Act.put]
    refine wpAnyB_take (i := 14) (oi := _) (v := ?vvr915) (fun w' => w'.cell? ⟨W.heap.size, 0, none⟩ = some (.pointer (some ⟨g, 0, none⟩)) ∧ w'.cell? ⟨g, 6, none⟩ = some (.slice (some ⟨lb, 0, none⟩) z.l.length lc) ∧ w'.cell? ⟨W'.heap.size, 1, none⟩ = some (.int .i64 (t : Int))) rfl (by kernel_rfl) (by kernel_rfl) (by kernel_rfl) (by kernel_rfl) (by rfl) (fun _ h => ⟨h.1, h.2.1, h.2.2.1⟩) (.inl fun _ h => ⟨h.1, h.2.1, h.2.2.1⟩) (fun _ _ _ h => h) (.inl ⟨by rfl, ?hyr915⟩) hSSr9 ?_
    case hyr915 =>
      intro w' hSw
      try dsimp only at hSw
      go_simp
      all_goals with_reducible rfl
    try simp only [Act.put]
    refine wpAnyB_take (i := 15) (oi := _) (v := ?vvr916) (fun w' => w'.cell? ⟨W.heap.size, 0, none⟩ = some (.pointer (some ⟨g, 0, none⟩)) ∧ w'.cell? ⟨g, 6, none⟩ = some (.slice (some ⟨lb, 0, none⟩) z.l.length lc) ∧ w'.cell? ⟨W'.heap.size, 1, none⟩ = some (.int .i64 (t : Int))) rfl (by kernel_rfl) (by kernel_rfl) (by kernel_rfl) (by kernel_rfl) (by rfl) (fun _ h => ⟨h.1, h.2.1, h.2.2.1⟩) (.inl fun _ h => ⟨h.1, h.2.1, h.2.2.1⟩) (fun _ _ _ h => h) (.inl ⟨by rfl, ?hyr916⟩) hSSr9 ?_
    case hyr916 =>
      intro w' hSw
      try dsimp only at hSw
      go_simp
      all_goals with_reducible rfl
    try simp only [Act.put]
    refine wpAnyB_take (i := 16) (oi := _) (v := ?vvr917) (fun w' => w'.cell? ⟨W.heap.size, 0, none⟩ = some (.pointer (some ⟨g, 0, none⟩)) ∧ w'.cell? ⟨g, 6, none⟩ = some (.slice (some ⟨lb, 0, none⟩) z.l.length lc) ∧ w'.cell? ⟨W'.heap.size, 1, none⟩ = some (.int .i64 (t : Int))) rfl (by kernel_rfl) (by kernel_rfl) (by kernel_rfl) (by kernel_rfl) (by rfl) (fun _ h => ⟨h.1, h.2.1, h.2.2.1⟩) (.inl fun _ h => ⟨h.1, h.2.1, h.2.2.1⟩) (fun _ _ _ h => h) (.inl ⟨by rfl, ?hyr917⟩) hSSr9 ?_
    case hyr917 =>
      intro w' hSw
      try dsimp only at hSw
      go_simp
      all_goals with_reducible rfl
    try simp only [Act.put]
    refine wpAnyB_take (i := 17) (oi := _) (v := ?vvr918) (fun w' => w'.cell? ⟨W.heap.size, 0, none⟩ = some (.pointer (some ⟨g, 0, none⟩)) ∧ w'.cell? ⟨g, 6, none⟩ = some (.slice (some ⟨lb, 0, none⟩) z.l.length lc) ∧ w'.cell? ⟨W'.heap.size, 1, none⟩ = some (.int .i64 (t : Int))) rfl (by kernel_rfl) (by kernel_rfl) (by kernel_rfl) (by kernel_rfl) (by rfl) (fun _ h => ⟨h.1, h.2.1, h.2.2.1⟩) (.inl fun _ h => ⟨h.1, h.2.1, h.2.2.1⟩) (fun _ _ _ h => h) (.inl ⟨by rfl, ?hyr918⟩) hSSr9 ?_
    case hyr918 =>
      intro w' hSw
      try dsimp only at hSw
      go_simp
      all_goals with_reducible rfl
    try simp only [Act.put]
    refine wpAnyB_take (i := 18) (oi := _) (v := ?vvr919) (fun w' => w'.cell? ⟨W.heap.size, 0, none⟩ = some (.pointer (some ⟨g, 0, none⟩)) ∧ w'.cell? ⟨g, 6, none⟩ = some (.slice (some ⟨lb, 0, none⟩) z.l.length lc) ∧ w'.cell? ⟨W'.heap.size, 1, none⟩ = some (.int .i64 (t : Int))) rfl (by kernel_rfl) (by kernel_rfl) (by kernel_rfl) (by kernel_rfl) (by rfl) (fun _ h => ⟨h.1, h.2.1, h.2.2.1⟩) (.inl fun _ h => ⟨h.1, h.2.1, h.2.2.1⟩) (fun _ _ _ h => h) (.inl ⟨by rfl, ?hyr919⟩) hSSr9 ?_
    case hyr919 =>
      intro w' hSw
      try dsimp only at hSw
      go_simp
      all_goals with_reducible rfl
    try simp only [Act.put]
    refine wpAnyB_take (i := 19) (oi := _) (v := ?vvr920) (fun w' => w'.cell? ⟨W.heap.size, 0, none⟩ = some (.pointer (some ⟨g, 0, none⟩)) ∧ w'.cell? ⟨g, 6, none⟩ = some (.slice (some ⟨lb, 0, none⟩) z.l.length lc) ∧ w'.cell? ⟨W'.heap.size, 1, none⟩ = some (.int .i64 (t : Int))) rfl (by kernel_rfl) (by kernel_rfl) (by kernel_rfl) (by kernel_rfl) (by rfl) (fun _ h => ⟨h.1, h.2.1, h.2.2.1⟩) (.inl fun _ h => ⟨h.1, h.2.1, h.2.2.1⟩) (fun _ _ _ h => h) (.inl ⟨by rfl, ?hyr920⟩) hSSr9 ?_
    case hyr920 =>
      intro w' hSw
      try dsimp only at hSw
      go_simp
      all_goals with_reducible rfl
    try simp only [Act.put]
    refine wpAnyB_take (i := 20) (oi := _) (v := ?vvr921) (fun w' => w'.cell? ⟨W.heap.size, 0, none⟩ = some (.pointer (some ⟨g, 0, none⟩)) ∧ w'.cell? ⟨g, 6, none⟩ = some (.slice (some ⟨lb, 0, none⟩) z.l.length lc) ∧ w'.cell? ⟨W'.heap.size, 1, none⟩ = some (.int .i64 (t : Int))) rfl (by kernel_rfl) (by kernel_rfl) (by kernel_rfl) (by kernel_rfl) (by rfl) (fun _ h => ⟨h.1, h.2.1, h.2.2.1⟩) (.inl fun _ h => ⟨h.1, h.2.1, h.2.2.1⟩) (fun _ _ _ h => h) (.inl ⟨by rfl, ?hyr921⟩) hSSr9 ?_
    case hyr921 =>
      intro w' hSw
      try dsimp only at hSw
      go_simp
      all_goals with_reducible rfl
    try simp only [Act.put]
    refine wpAnyB_take (i := 21) (oi := _) (v := ?vvr922) (fun w' => w'.cell? ⟨W.heap.size, 0, none⟩ = some (.pointer (some ⟨g, 0, none⟩)) ∧ w'.cell? ⟨g, 6, none⟩ = some (.slice (some ⟨lb, 0, none⟩) z.l.length lc) ∧ w'.cell? ⟨W'.heap.size, 1, none⟩ = some (.int .i64 (t : Int)) ∧ w'.cell? ⟨lb, t, none⟩ = some (vInt la) ∧ w'.cell? ⟨lb, t + 1, none⟩ = some (vInt la2)) rfl (by kernel_rfl) (by kernel_rfl) (by kernel_rfl) (by kernel_rfl) (by rfl) (fun _ h => ⟨h.1, h.2.1, h.2.2.1, h.2.2.2 rfl⟩) (.inr (by kernel_rfl)) (fun _ _ _ h => h) (.inl ⟨by rfl, ?hyr922⟩) hSSr9 ?_
    case hyr922 =>
      intro w' hSw
      try dsimp only at hSw
      go_simp
      all_goals with_reducible rfl
    try simp only [Act.put]
    refine wpAnyB_take (i := 22) (oi := _) (v := ?vvr923) (fun w' => w'.cell? ⟨W.heap.size, 0, none⟩ = some (.pointer (some ⟨g, 0, none⟩)) ∧ w'.cell? ⟨g, 6, none⟩ = some (.slice (some ⟨lb, 0, none⟩) z.l.length lc) ∧ w'.cell? ⟨W'.heap.size, 1, none⟩ = some (.int .i64 (t : Int))) rfl (by kernel_rfl) (by kernel_rfl) (by kernel_rfl) (by kernel_rfl) (by rfl) (fun _ h => ⟨h.1, h.2.1, h.2.2.1⟩) (.inl fun _ h => ⟨h.1, h.2.1, h.2.2.1⟩) (fun _ _ _ h => h) (.inl ⟨by rfl, ?hyr923⟩) hSSr9 ?_
    case hyr923 =>
      intro w' hSw
      try dsimp only at hSw
      go_simp
      all_goals with_reducible rfl
    try simp only [Act.put]
    refine wpAnyB_take (i := 23) (oi := _) (v := ?vvr924) (fun w' => w'.cell? ⟨W.heap.size, 0, none⟩ = some (.pointer (some ⟨g, 0, none⟩)) ∧ w'.cell? ⟨g, 6, none⟩ = some (.slice (some ⟨lb, 0, none⟩) z.l.length lc) ∧ w'.cell? ⟨W'.heap.size, 1, none⟩ = some (.int .i64 (t : Int))) rfl (by kernel_rfl) (by kernel_rfl) (by kernel_rfl) (by kernel_rfl) (by rfl) (fun _ h => ⟨h.1, h.2.1, h.2.2.1⟩) (.inl fun _ h => ⟨h.1, h.2.1, h.2.2.1⟩) (fun _ _ _ h => h) (.inl ⟨by rfl, ?hyr924⟩) hSSr9 ?_
    case hyr924 =>
      intro w' hSw
      try dsimp only at hSw
      go_simp
      all_goals with_reducible rfl
    try simp only [Act.put]
    refine wpAnyB_take (i := 24) (oi := _) (v := ?vvr925) (fun w' => w'.cell? ⟨W.heap.size, 0, none⟩ = some (.pointer (some ⟨g, 0, none⟩)) ∧ w'.cell? ⟨g, 6, none⟩ = some (.slice (some ⟨lb, 0, none⟩) z.l.length lc) ∧ w'.cell? ⟨W'.heap.size, 1, none⟩ = some (.int .i64 (t : Int))) rfl (by kernel_rfl) (by kernel_rfl) (by kernel_rfl) (by kernel_rfl) (by rfl) (fun _ h => ⟨h.1, h.2.1, h.2.2.1⟩) (.inl fun _ h => ⟨h.1, h.2.1, h.2.2.1⟩) (fun _ _ _ h => h) (.inl ⟨by rfl, ?hyr925⟩) hSSr9 ?_
    case hyr925 =>
      intro w' hSw
      try dsimp only at hSw
      go_simp
      all_goals with_reducible rfl
    try simp only [Act.put]
    refine wpAnyB_take (i := 25) (oi := _) (v := ?vvr926) (fun w' => w'.cell? ⟨W.heap.size, 0, none⟩ = some (.pointer (some ⟨g, 0, none⟩)) ∧ w'.cell? ⟨g, 6, none⟩ = some (.slice (some ⟨lb, 0, none⟩) z.l.length lc) ∧ w'.cell? ⟨W'.heap.size, 1, none⟩ = some (.int .i64 (t : Int))) rfl (by kernel_rfl) (by kernel_rfl) (by kernel_rfl) (by kernel_rfl) (by rfl) (fun _ h => ⟨h.1, h.2.1, h.2.2.1⟩) (.inl fun _ h => ⟨h.1, h.2.1, h.2.2.1⟩) (fun _ _ _ h => h) (.inl ⟨by rfl, ?hyr926⟩) hSSr9 ?_
    case hyr926 =>
      intro w' hSw
      try dsimp only at hSw
      go_simp
      all_goals with_reducible rfl
    try simp only [Act.put]
    refine wpAnyB_take (i := 26) (oi := _) (v := ?vvr927) (fun w' => w'.cell? ⟨W.heap.size, 0, none⟩ = some (.pointer (some ⟨g, 0, none⟩)) ∧ w'.cell? ⟨g, 6, none⟩ = some (.slice (some ⟨lb, 0, none⟩) z.l.length lc) ∧ w'.cell? ⟨W'.heap.size, 1, none⟩ = some (.int .i64 (t : Int))) rfl (by kernel_rfl) (by kernel_rfl) (by kernel_rfl) (by kernel_rfl) (by rfl) (fun _ h => ⟨h.1, h.2.1, h.2.2.1⟩) (.inl fun _ h => ⟨h.1, h.2.1, h.2.2.1⟩) (fun _ _ _ h => h) (.inl ⟨by rfl, ?hyr927⟩) hSSr9 ?_
    case hyr927 =>
      intro w' hSw
      try dsimp only at hSw
      go_simp
      all_goals with_reducible rfl
    try simp only [Act.put]
    refine wpAnyB_take (i := 27) (oi := _) (v := ?vvr928) (fun w' => w'.cell? ⟨W.heap.size, 0, none⟩ = some (.pointer (some ⟨g, 0, none⟩)) ∧ w'.cell? ⟨g, 6, none⟩ = some (.slice (some ⟨lb, 0, none⟩) z.l.length lc) ∧ w'.cell? ⟨W'.heap.size, 1, none⟩ = some (.int .i64 (t : Int))) rfl (by kernel_rfl) (by kernel_rfl) (by kernel_rfl) (by kernel_rfl) (by rfl) (fun _ h => ⟨h.1, h.2.1, h.2.2.1⟩) (.inl fun _ h => ⟨h.1, h.2.1, h.2.2.1⟩) (fun _ _ _ h => h) (.inl ⟨by rfl, ?hyr928⟩) hSSr9 ?_
    case hyr928 =>
      intro w' hSw
      try dsimp only at hSw
      go_simp
      all_goals with_reducible rfl
    try simp only [Act.put]
    refine wpAnyB_take (i := 28) (oi := _) (v := ?vvr929) (fun w' => w'.cell? ⟨W.heap.size, 0, none⟩ = some (.pointer (some ⟨g, 0, none⟩)) ∧ w'.cell? ⟨g, 6, none⟩ = some (.slice (some ⟨lb, 0, none⟩) z.l.length lc) ∧ w'.cell? ⟨W'.heap.size, 1, none⟩ = some (.int .i64 (t : Int))) rfl (by kernel_rfl) (by kernel_rfl) (by kernel_rfl) (by kernel_rfl) (by rfl) (fun _ h => ⟨h.1, h.2.1, h.2.2.1⟩) (.inl fun _ h => ⟨h.1, h.2.1, h.2.2.1⟩) (fun _ _ _ h => h) (.inl ⟨by rfl, ?hyr929⟩) hSSr9 ?_
    case hyr929 =>
      intro w' hSw
      try dsimp only at hSw
      go_simp
      all_goals with_reducible rfl
    try simp only [Act.put]
    refine wpAnyB_take (i := 29) (oi := _) (v := ?vvr930) (fun w' => w'.cell? ⟨W.heap.size, 0, none⟩ = some (.pointer (some ⟨g, 0, none⟩)) ∧ w'.cell? ⟨g, 6, none⟩ = some (.slice (some ⟨lb, 0, none⟩) z.l.length lc) ∧ w'.cell? ⟨W'.heap.size, 1, none⟩ = some (.int .i64 (t : Int)) ∧ w'.cell? ⟨lb, t, none⟩ = some (vInt la) ∧ w'.cell? ⟨lb, t + 1, none⟩ = some (vInt la2)) rfl (by kernel_rfl) (by kernel_rfl) (by kernel_rfl) (by kernel_rfl) (by rfl) (fun _ h => ⟨h.1, h.2.1, h.2.2.1, h.2.2.2 rfl⟩) (.inr (by kernel_rfl)) (fun _ _ _ h => h) (.inl ⟨by rfl, ?hyr930⟩) hSSr9 ?_
    case hyr930 =>
      intro w' hSw
      try dsimp only at hSw
      go_simp
      all_goals with_reducible rfl
    try simp only [Act.put]
    refine wpAnyB_one (i := 30) false rfl (by kernel_rfl) (by kernel_rfl) ?_
    intro KK hKK
    go_simp
    refine hKK.out _ _ ⟨p0, c6, x1, fun _ => ⟨y0', y1'⟩⟩ ?_
    clear hKK KK
    try simp only [Act.put, List.setIfInBounds_toArray, List.set_cons_zero, List.set_cons_succ]
    refine wpAnyB_one (i := 31) true rfl (by kernel_rfl) (by kernel_rfl) ?_
    intro KK hKK
    go_simp
    refine hKK.out _ _ ⟨(cell_far p0 (fun e => n2 e.symm)), (cell_far c6 (fun e => n3 e.symm)), (cell_far x1 (fun e => n1 e.symm)), fun hh => by cases hh⟩ ?_
    clear hKK KK
    try simp only [Act.put, List.setIfInBounds_toArray, List.set_cons_zero, List.set_cons_succ]
    refine wpAnyB_one (i := 32) true rfl (by kernel_rfl) (by kernel_rfl) ?_
    intro KK hKK
    go_simp
    refine hKK.out _ _ ⟨(cell_far p0 (fun e => n2 e.symm)), (cell_far c6 (fun e => n3 e.symm)), (cell_far x1 (fun e => n1 e.symm)), fun hh => by cases hh⟩ ?_
    clear hKK KK
    try simp only [Act.put, List.setIfInBounds_toArray, List.set_cons_zero, List.set_cons_succ]
    refine wpAnyB_one (i := 33) true rfl (by kernel_rfl) (by kernel_rfl) ?_
    intro KK hKK
    go_simp
    refine hKK.out _ _ ⟨(cell_far (cell_far p0 (fun e => n2 e.symm)) (fun e => n2 e.symm)), (cell_far (cell_far c6 (fun e => n3 e.symm)) (fun e => n3 e.symm)), (cell_far (cell_far x1 (fun e => n1 e.symm)) (fun e => n1 e.symm)), fun hh => by cases hh⟩ ?_
    clear hKK KK
    try simp only [Act.put, List.setIfInBounds_toArray, List.set_cons_zero, List.set_cons_succ]
    refine wpAnyB_done (by kernel_rfl) (NoPanic.normal ?_) _
    have hw9 : ((Y.setCell ⟨lb, t, none⟩ (vInt la2)).setCell ⟨lb, t + 1, none⟩ (vInt la)).heap.size = Y.heap.size := by simp [World.setCell]
    have hk9 : KeepsOthers Y ((Y.setCell ⟨lb, t, none⟩ (vInt la2)).setCell ⟨lb, t + 1, none⟩ (vInt la)) := (KeepsOthers.setCell _ _ _).trans (KeepsOthers.setCell _ _ _)
    have hb9 : KeepB (fun q => q = lb) w3 (((Y.setCell ⟨lb, t, none⟩ (vInt la2)).setCell ⟨lb, t + 1, none⟩ (vInt la)).drew) := ((KY.out.trans (KeepB.set (S := fun q => q = lb) Y rfl t _)).trans (KeepB.set (S := fun q => q = lb) _ rfl (t + 1) _)).drew
    refine ⟨⟨hk9.size, hk9.same⟩, ⟨Nat.le_of_eq hw9.symm, fun r hr h1 h2 => (Below.heap_setCell _ _ _ _ h2).trans (Below.heap_setCell _ _ _ _ h2)⟩, ?_, hb9⟩
    rw [HLL.out, HCR.out, List.map_set, List.map_set]
    exact ((LY.out.stored t (vInt la2)).1.stored (t + 1) (vInt la)).1
end Go.Proofs.Ytaenafcecfdffaa
