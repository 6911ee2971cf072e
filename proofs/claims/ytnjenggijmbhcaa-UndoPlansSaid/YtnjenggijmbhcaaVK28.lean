/-
  The queues of compile.Quick while they are being built.
-/
import Derived.Test.YtnjenggijmbhcaaVK3
import Derived.Test.YtnjenggijmbhcaaVK23
import Derived.Test.YtnjenggijmbhcaaVK27
import Derived.Laws.MakeOwn
namespace Go.Proofs.Ytnjenggijmbhcaa
open Go.RowKit
abbrev vNq (k : Nat) : Value := .int .i64 (k : Int)
/-- memory while a work is being pushed on two queues; d0, d1: what the two appends have given, if they have run; h: the block of the work's own variable -/
structure PushQ (F : Nat → List Nat) (T : Nat) (w1 : World) (i : Nat) (V : Nat → Value) (a h : Nat) (d0 d1 : Option Value) (W : World) : Prop where
  has : Has W T 136 ((List.range 24).map V)
  rows : ∀ q, q < 24 → (q = a → d0 = none) → (q = a + 1 → d1 = none) → W.ownsRow (T + 2) 3 1 (V q) (F q).length ((F q).map vNat)
  row0 : ∀ v, d0 = some v → W.ownsRow (T + 2) 3 1 v ((F a).length + 1) ((F a).map vNat ++ [vNat i]) ∧ (v.ownBlock = (V a).ownBlock ∨ ∃ g, v.ownBlock = some g ∧ h < g)
  row1 : ∀ v, d1 = some v → W.ownsRow (T + 2) 3 1 v ((F (a + 1)).length + 1) ((F (a + 1)).map vNat ++ [vNat i]) ∧ (v.ownBlock = (V (a + 1)).ownBlock ∨ ∃ g, v.ownBlock = some g ∧ h < g)
  two : ∀ v0 v1, d0 = some v0 → d1 = some v1 → ∀ g, v0.ownBlock = some g → v1.ownBlock ≠ some g
  rpc : Has W (T + 1) 135 [.pointer (some ⟨T, 0, none⟩)]
  old : Below T w1 W
  far : ∀ q, q < 24 → ∀ g, (V q).ownBlock = some g → T + 2 ≤ g ∧ g < h
  apart : ∀ q q', q < 24 → q' < 24 → q ≠ q' → ∀ g, (V q).ownBlock = some g → (V q').ownBlock ≠ some g
  low : T + 1 < h
  big : h < W.heap.size
  box : W.cell? ⟨h, 1, none⟩ = some (.int .i64 (a : Int))
section
variable {F : Nat → List Nat} {T : Nat} {w1 : World} {i : Nat} {V : Nat → Value} {a h : Nat} {d0 d1 : Option Value} {W W' : World}
theorem PushQ.alloc (P : PushQ F T w1 i V a h d0 d1 W) (o : Obj) : PushQ F T w1 i V a h d0 d1 (W.alloc o) where
  has := P.has.alloc o
  rows := fun q hq h0 h1 => (P.rows q hq h0 h1).alloc o
  row0 := fun v hv => ⟨(P.row0 v hv).1.alloc o, (P.row0 v hv).2⟩
  row1 := fun v hv => ⟨(P.row1 v hv).1.alloc o, (P.row1 v hv).2⟩
  two := P.two
  rpc := P.rpc.alloc o
  old := P.old.alloc (by have := P.low; have := P.big; omega) o
  far := P.far
  apart := P.apart
  low := P.low
  big := by have := P.big; simp; omega
  box := (World.cell?_alloc_lt W o ⟨h, 1, none⟩ P.big).trans P.box
theorem PushQ.drew (P : PushQ F T w1 i V a h d0 d1 W) : PushQ F T w1 i V a h d0 d1 W.drew where
  has := P.has
  rows := P.rows
  row0 := P.row0
  row1 := P.row1
  two := P.two
  rpc := P.rpc
  old := P.old.drew
  far := P.far
  apart := P.apart
  low := P.low
  big := P.big
  box := P.box
theorem PushQ.frz (P : PushQ F T w1 i V a h d0 d1 W) (q : Nat) : W.frozen? ⟨T, q, none⟩ = false := P.has.free q
theorem PushQ.at_ (P : PushQ F T w1 i V a h d0 d1 W) {q : Nat} (hq : q < 24) : W.cell? ⟨T, q, none⟩ = some (V q) := (P.has.cell q).trans (by simp [hq])
theorem PushQ.app0 (P : PushQ F T w1 i V a h none d1 W) (ha : a + 1 < 24) {v : Value} (hg : W.grownBy W' (V a).ownBlock)
    (ho : W'.ownsRow (T + 2) 3 1 v ((F a).length + 1) ((F a).map vNat ++ [vNat i])) (hor : v.ownBlock = (V a).ownBlock ∨ v.ownBlock = some W.heap.size) : PushQ F T w1 i V a h (some v) d1 W' := by
  have nrow : ∀ b, b < T + 2 ∨ h ≤ b → some b ≠ (V a).ownBlock := fun b hb e => by
    have := P.far a (by omega) b e.symm; omega
  have low := P.low
  have big := P.big
  exact {
    has := P.has.same (hg.block T P.has.lt (nrow T (by omega)))
    rows := fun q hq h0 h1 => by
      have hqa : q ≠ a := fun e => by have := h0 e; cases this
      refine (P.rows q hq (fun e => absurd e hqa) h1).kept hg ?_
      cases hv : (V q).ownBlock with
      | none => exact .inl rfl
      | some g => exact .inr (fun e => P.apart q a hq (by omega) hqa g hv e.symm)
    row0 := fun v' hv => by
      injection hv with hv; subst hv
      refine ⟨ho, ?_⟩
      rcases hor with h1 | h1
      · exact .inl h1
      · exact .inr ⟨_, h1, big⟩
    row1 := fun v' hv => by
      obtain ⟨r1, r2⟩ := P.row1 v' hv
      refine ⟨r1.kept hg ?_, r2⟩
      cases hv' : v'.ownBlock with
      | none => exact .inl rfl
      | some g =>
        refine .inr (fun e => ?_)
        rcases r2 with r2 | ⟨g', r2, hlt⟩
        · rw [r2] at hv'; exact P.apart (a + 1) a (by omega) (by omega) (by omega) g hv' e.symm
        · rw [r2] at hv'; injection hv' with hv'
          have := P.far a (by omega) g e.symm; omega
    two := fun v0 v1 h0 h1 g hg0 hg1 => by
      injection h0 with h0; subst h0
      obtain ⟨r1, r2⟩ := P.row1 v1 h1
      rcases hor with e | e
      · rw [e] at hg0
        rcases r2 with r2 | ⟨g', r2, hlt⟩
        · rw [r2] at hg1; exact P.apart a (a + 1) (by omega) (by omega) (by omega) g hg0 hg1
        · rw [r2] at hg1; injection hg1 with hg1
          have := P.far a (by omega) g hg0; omega
      · rw [e] at hg0; injection hg0 with hg0
        have := (r1.lt g hg1).2; omega
    rpc := P.rpc.same (hg.block (T + 1) (Nat.lt_trans low big) (nrow (T + 1) (by omega)))
    old := P.old.grown hg (by omega) (fun k hk => by have := P.far a (by omega) k hk; omega)
    far := P.far
    apart := P.apart
    low := low
    big := Nat.lt_of_lt_of_le big hg.size
    box := (World.cell?_of_block (hg.block h big (nrow h (by omega)))).trans P.box }
theorem PushQ.app1 (P : PushQ F T w1 i V a h d0 none W) (ha : a + 1 < 24) {v : Value} (hg : W.grownBy W' (V (a + 1)).ownBlock)
    (ho : W'.ownsRow (T + 2) 3 1 v ((F (a + 1)).length + 1) ((F (a + 1)).map vNat ++ [vNat i])) (hor : v.ownBlock = (V (a + 1)).ownBlock ∨ v.ownBlock = some W.heap.size) : PushQ F T w1 i V a h d0 (some v) W' := by
  have nrow : ∀ b, b < T + 2 ∨ h ≤ b → some b ≠ (V (a + 1)).ownBlock := fun b hb e => by
    have := P.far (a + 1) (by omega) b e.symm; omega
  have low := P.low
  have big := P.big
  exact {
    has := P.has.same (hg.block T P.has.lt (nrow T (by omega)))
    rows := fun q hq h0 h1 => by
      have hqa : q ≠ a + 1 := fun e => by have := h1 e; cases this
      refine (P.rows q hq h0 (fun e => absurd e hqa)).kept hg ?_
      cases hv : (V q).ownBlock with
      | none => exact .inl rfl
      | some g => exact .inr (fun e => P.apart q (a + 1) hq (by omega) hqa g hv e.symm)
    row1 := fun v' hv => by
      injection hv with hv; subst hv
      refine ⟨ho, ?_⟩
      rcases hor with h1 | h1
      · exact .inl h1
      · exact .inr ⟨_, h1, big⟩
    row0 := fun v' hv => by
      obtain ⟨r1, r2⟩ := P.row0 v' hv
      refine ⟨r1.kept hg ?_, r2⟩
      cases hv' : v'.ownBlock with
      | none => exact .inl rfl
      | some g =>
        refine .inr (fun e => ?_)
        rcases r2 with r2 | ⟨g', r2, hlt⟩
        · rw [r2] at hv'; exact P.apart a (a + 1) (by omega) (by omega) (by omega) g hv' e.symm
        · rw [r2] at hv'; injection hv' with hv'
          have := P.far (a + 1) (by omega) g e.symm; omega
    two := fun v0 v1 h0 h1 g hg0 hg1 => by
      injection h1 with h1; subst h1
      obtain ⟨r1, r2⟩ := P.row0 v0 h0
      rcases hor with e | e
      · rw [e] at hg1
        rcases r2 with r2 | ⟨g', r2, hlt⟩
        · rw [r2] at hg0; exact P.apart a (a + 1) (by omega) (by omega) (by omega) g hg0 hg1
        · rw [r2] at hg0; injection hg0 with hg0
          have := P.far (a + 1) (by omega) g hg1; omega
      · rw [e] at hg1; injection hg1 with hg1
        have := (r1.lt g hg0).2; omega
    rpc := P.rpc.same (hg.block (T + 1) (Nat.lt_trans low big) (nrow (T + 1) (by omega)))
    old := P.old.grown hg (by omega) (fun k hk => by have := P.far (a + 1) (by omega) k hk; omega)
    far := P.far
    apart := P.apart
    low := low
    big := Nat.lt_of_lt_of_le big hg.size
    box := (World.cell?_of_block (hg.block h big (nrow h (by omega)))).trans P.box }
theorem PushQ.rowA (P : PushQ F T w1 i V a h none d1 W) (ha : a + 1 < 24) {v : Value} (hv : V a = v) : W.ownsRow (T + 2) 3 1 v (F a).length ((F a).map vNat) := by
  have := P.rows a (by omega) (fun _ => rfl) (fun e => by omega)
  rwa [hv] at this
theorem PushQ.rowB (P : PushQ F T w1 i V a h d0 none W) (ha : a + 1 < 24) {v : Value} (hv : V (a + 1) = v) : W.ownsRow (T + 2) 3 1 v (F (a + 1)).length ((F (a + 1)).map vNat) := by
  have := P.rows (a + 1) (by omega) (fun e => by omega) (fun _ => rfl)
  rwa [hv] at this
theorem PushQ.appA {vv : Value} (P : PushQ F T w1 i V a h none d1 W) (ha : a + 1 < 24) (hv : V a = vv) {v : Value} (hg : W.grownBy W' vv.ownBlock)
    (ho : W'.ownsRow (T + 2) 3 1 v ((F a).length + 1) ((F a).map vNat ++ [vNat i])) (hor : v.ownBlock = vv.ownBlock ∨ v.ownBlock = some W.heap.size) : PushQ F T w1 i V a h (some v) d1 W' := by
  subst hv; exact P.app0 ha hg ho hor
theorem PushQ.appB {vv : Value} (P : PushQ F T w1 i V a h d0 none W) (ha : a + 1 < 24) (hv : V (a + 1) = vv) {v : Value} (hg : W.grownBy W' vv.ownBlock)
    (ho : W'.ownsRow (T + 2) 3 1 v ((F (a + 1)).length + 1) ((F (a + 1)).map vNat ++ [vNat i])) (hor : v.ownBlock = vv.ownBlock ∨ v.ownBlock = some W.heap.size) : PushQ F T w1 i V a h d0 (some v) W' := by
  subst hv; exact P.app1 ha hg ho hor
end
/-- the first i works that take place q -/
def qTo (ws : List Wk) (i q : Nat) : List Nat := (List.range i).filter fun k => takes (wat ws k) q
theorem qTo_succ (ws : List Wk) (i q : Nat) : qTo ws (i + 1) q = qTo ws i q ++ if takes (wat ws i) q then [i] else [] := by
  unfold qTo
  rw [List.range_succ, List.filter_append, List.filter_cons]
  rfl
theorem qTo_que (ws : List Wk) (q : Nat) : qTo ws ws.length q = que ws noneD q := by
  unfold qTo que
  exact List.filter_congr fun k _ => by simp [noneD]
theorem qTo_len (ws : List Wk) (i q : Nat) : (qTo ws i q).length ≤ i := by
  have := List.length_filter_le (fun k => takes (wat ws k) q) (List.range i)
  rwa [List.length_range] at this
/-- memory behind the first i works -/
structure QBld (ws : List Wk) (T : Nat) (w1 : World) (i : Nat) (V : Nat → Value) (wr : World) : Prop where
  has : Has wr T 136 ((List.range 24).map V)
  rows : ∀ q, q < 24 → wr.ownsRow (T + 2) 3 1 (V q) (qTo ws i q).length ((qTo ws i q).map vNat)
  apart : ∀ q q', q < 24 → q' < 24 → q ≠ q' → ∀ g, (V q).ownBlock = some g → (V q').ownBlock ≠ some g
  rpc : Has wr (T + 1) 135 [.pointer (some ⟨T, 0, none⟩)]
  old : Below T w1 wr
theorem PushQ.done {ws : List Wk} {T i a h : Nat} {w1 W : World} {V : Nat → Value} {v0 v1 : Value} (P : PushQ (qTo ws i) T w1 i V a h (some v0) (some v1) W) (hxa : wat ws i = a) (ha : a + 1 < 24) :
    QBld ws T w1 (i + 1) (fun q => if q = a then v0 else if q = a + 1 then v1 else V q) ((W.setCell ⟨T, a, none⟩ v0).setCell ⟨T, a + 1, none⟩ v1) := by
  have keep : ∀ {base : Nat} {e : TypeId} {size m : Nat} {v : Value} {xs : List Value}, T < base → W.ownsRow base e size v m xs → ((W.setCell ⟨T, a, none⟩ v0).setCell ⟨T, a + 1, none⟩ v1).ownsRow base e size v m xs := fun hb ho =>
    ownsRow_setCell_below (ownsRow_setCell_below ho (by simpa using hb) _) (by simpa using hb) _
  have tk : ∀ q, q ≠ a → q ≠ a + 1 → takes (wat ws i) q = false := fun q h0 h1 => by
    cases ht : takes (wat ws i) q with
    | false => rfl
    | true => have := (takes_iff _ _).1 ht; omega
  have t0 : takes (wat ws i) a = true := (takes_iff _ _).2 (.inl hxa)
  have t1 : takes (wat ws i) (a + 1) = true := (takes_iff _ _).2 (.inr (by omega))
  have r0 := P.row0 v0 rfl
  have r1 := P.row1 v1 rfl
  have ofar : ∀ (q : Nat) (v : Value) (d : Option Nat), q < 24 → (v.ownBlock = d ∨ ∃ g, v.ownBlock = some g ∧ h < g) → (∀ g, d = some g → (V q).ownBlock ≠ some g) → ∀ g, v.ownBlock = some g → (V q).ownBlock ≠ some g := fun q v d hq hv hd g hg e => by
    rcases hv with hv | ⟨g', hv, hl⟩
    · exact hd g (hv.symm.trans hg) e
    · rw [hv] at hg; injection hg with hg
      have := (P.far q hq g e).2; omega
  refine ⟨?_, fun q hq => ?_, fun q q' hq hq' hne g hg hg' => ?_, ((P.rpc.far (by omega) a v0).far (by omega) (a + 1) v1), (P.old.setCell (Nat.le_refl _) _).setCell (Nat.le_refl _) _⟩
  · have := (P.has.set a v0).set (a + 1) v1
    rw [map_set_range, map_set_range] at this
    have e : ((List.range 24).map fun q => if q = a then v0 else if q = a + 1 then v1 else V q) = (List.range 24).map fun j => if j = a + 1 then v1 else if j = a then v0 else V j := by
      apply List.map_congr_left
      intro q _
      by_cases h0 : q = a
      · rw [if_pos h0, if_neg (by omega), if_pos h0]
      · rw [if_neg h0, if_neg h0]
    rw [e]; exact this
  · rw [qTo_succ]
    by_cases h0 : q = a
    · subst h0
      rw [if_pos rfl, if_pos t0, List.map_append, List.length_append]
      exact keep (by omega) r0.1
    · rw [if_neg h0]
      by_cases h1 : q = a + 1
      · subst h1
        rw [if_pos rfl, if_pos t1, List.map_append, List.length_append]
        exact keep (by omega) r1.1
      · rw [if_neg h1, if_neg (by rw [tk q h0 h1]; decide), List.append_nil]
        exact keep (by omega) (P.rows q hq (fun e => absurd e h0) (fun e => absurd e h1))
  · have A0 : ∀ q, q < 24 → q ≠ a → ∀ g, v0.ownBlock = some g → (V q).ownBlock ≠ some g := fun q hq hn => ofar q v0 _ hq r0.2 (fun g e => P.apart a q (by omega) hq (fun e => hn e.symm) g e)
    have A1 : ∀ q, q < 24 → q ≠ a + 1 → ∀ g, v1.ownBlock = some g → (V q).ownBlock ≠ some g := fun q hq hn => ofar q v1 _ hq r1.2 (fun g e => P.apart (a + 1) q (by omega) hq (fun e => hn e.symm) g e)
    by_cases h0 : q = a
    · rw [if_pos h0] at hg
      rw [if_neg (by omega)] at hg'
      by_cases h1 : q' = a + 1
      · rw [if_pos h1] at hg'; exact P.two v0 v1 rfl rfl g hg hg'
      · rw [if_neg h1] at hg'; exact A0 q' hq' (by omega) g hg hg'
    · rw [if_neg h0] at hg
      by_cases h1 : q = a + 1
      · rw [if_pos h1] at hg
        by_cases h2 : q' = a
        · rw [if_pos h2] at hg'; exact P.two v0 v1 rfl rfl g hg' hg
        · rw [if_neg h2, if_neg (by omega)] at hg'; exact A1 q' hq' (by omega) g hg hg'
      · rw [if_neg h1] at hg
        by_cases h2 : q' = a
        · rw [if_pos h2] at hg'; exact A0 q hq h0 g hg' hg
        · rw [if_neg h2] at hg'
          by_cases h3 : q' = a + 1
          · rw [if_pos h3] at hg'; exact A1 q hq h1 g hg' hg
          · rw [if_neg h3] at hg'; exact P.apart q q' hq hq' hne g hg hg'
theorem QBld.quh {ws : List Wk} {T : Nat} {w1 wr : World} {V : Nat → Value} (h : QBld ws T w1 ws.length V wr) : QuH T wr.heap.size wr T ws noneD V := by
  refine ⟨h.has, fun q hq => ?_⟩
  have hr := h.rows q hq
  rw [qTo_que] at hr
  obtain ⟨A, c, hv⟩ := own_form hr
  rw [hv] at hr
  refine ⟨A, c, hv, (own_caps hr).1, (own_caps hr).2, fun k x hx => ?_⟩
  obtain ⟨g, h1, h2, h3, h4⟩ := own_at hr (j := k) (u := .int .i64 (x : Int)) (by rw [List.getElem?_map, hx]; rfl)
  exact ⟨g, 0, h1, by omega, h3, by rw [Nat.zero_add]; exact h4⟩
theorem news1Q {w : World} {b : Nat} {u : Value} (h : w.cell? ⟨b, 0, none⟩ = some u) : ∀ j v, [u][j]? = some v → w.cell? ((⟨b, 0, none⟩ : Addr).add j) = some v := fun j v hv => by
  match j, hv with
  | 0, hv => simp at hv; subst hv; rw [Addr.add_lit]; exact h
  | j + 1, hv => simp at hv
/-- a new cell is there behind an append to another row -/
theorem tmp_keepQ {w w' : World} {v : Value} {b : Nat} {u : Value} (hg : w.grownBy w' v.ownBlock) (hb : b < w.heap.size) (hne : ∀ g, v.ownBlock = some g → g < b) (h : w.cell? ⟨b, 0, none⟩ = some u) : w'.cell? ⟨b, 0, none⟩ = some u :=
  (World.cell?_of_block (hg.block b hb (fun e => by have := hne b e.symm; omega))).trans h
end Go.Proofs.Ytnjenggijmbhcaa
/-
  Contracts of compile.check and compile.Quick.
-/
namespace Go.Proofs.Ytnjenggijmbhcaa
open Go.RowKit
def qckE (p s : Int) (ws : List Wk) : Int := if schk p ws = 0 then (if spB p s then 0 else 7) else schk p ws
set_option maxRecDepth 100000 in
set_option maxHeartbeats 2000000 in
theorem qCheck (p s : Int) (A : Option Addr) (n c sb : Nat) (ws : List Wk) (w : World) (hn : n ≤ 9223372036854775807) (hw : RdW w w.heap.size A ws) (hl : ws.length = n)
    (hs : ∀ x ∈ ws, x.word.size ≤ 9223372036854775807) (hS : Has w sb 24 [.int .i64 p, .slice A n c]) :
    Calls Try.prog 101 #[.pointer (some ⟨sb, 0, none⟩), .int .i64 s] w fun e w' => e = .returned (.int .i64 (qckE p s ws)) ∧ Below w.heap.size w w' := by
  have HW := Lib.hid hw
  have HS := Lib.hid hS
  have c0 : w.cell? ⟨sb, 0, none⟩ = some (.int .i64 p) := hS.cell 0
  have c1 : w.cell? ⟨sb, 1, none⟩ = some (.slice A n c) := hS.cell 1
  have hlt := hS.lt
  have CC := Lib.hid (fun W (hb : Below w.heap.size w W) => shCheck p A n c ws W hn (HW.out.up hb) hl hs)
  have CP := Lib.hid (fun W => spansC p s W)
  clear hw hS hn hl hs
  by_cases h0 : schk p ws = 0
  · have hq : qckE p s ws = if spB p s then 0 else 7 := if_pos h0
    rw [h0] at CC
    rw [hq]
    obtain ⟨z, hz⟩ : ∃ z : Int, z = if spB p s then 0 else 7 := ⟨_, rfl⟩
    rw [← hz]
    have HZ := Lib.hid hz
    clear hz hq h0
    go_enter Try.func101, Try.ntmps101
    go_wp2_with fail
    refine (CC.out _ (by go_grown)).mono ?_
    rintro e w1 ⟨rfl, hb1⟩
    have d0 : w1.cell? ⟨sb, 0, none⟩ = some (.int .i64 p) := (HS.out.below hb1 HS.out.lt).cell 0
    have HB := Lib.hid hb1
    clear hb1 c0 c1 hlt CC
    cases hsp : spB p s with
    | true =>
      rw [hsp] at CP HZ
      clear hsp
      go_wp2_with fail
      refine (CP.out _).mono ?_
      rintro e w2 ⟨rfl, rfl⟩
      go_wp2
      go_ret
      exact ⟨by rw [HZ.out]; rfl, HB.out⟩
    | false =>
      rw [hsp] at CP HZ
      clear hsp
      go_wp2_with fail
      refine (CP.out _).mono ?_
      rintro e w2 ⟨rfl, rfl⟩
      go_wp2
      go_ret
      exact ⟨by rw [HZ.out]; rfl, HB.out⟩
  · rw [show qckE p s ws = schk p ws from if_neg h0]
    have he : (schk p ws == 0) = false := beq_eq_false_iff_ne.2 h0
    clear h0
    generalize schk p ws = er at *
    go_enter Try.func101, Try.ntmps101
    go_wp2_with fail
    refine (CC.out _ (by go_grown)).mono ?_
    rintro e w1 ⟨rfl, hb1⟩
    have HB := Lib.hid hb1
    clear hb1 c0 c1 hlt CC
    go_wp2
    go_ret
    exact ⟨rfl, HB.out⟩
/-- an ending: steps in memory, and an error -/
def RetQE (os : List Wk) (err : Int) (w : World) (e : Ending) (w' : World) : Prop := ∃ A n c, e = .returned (.tuple #[.slice A n c, .int .i64 err]) ∧ RdW w' w'.heap.size A os ∧ os.length = n ∧ n ≤ c ∧ c ≤ 9223372036854775807 ∧ Below w.heap.size w w'
set_option maxRecDepth 100000 in
set_option maxHeartbeats 2000000 in
theorem quickN (p s : Int) (A : Option Addr) (n c : Nat) (ws : List Wk) (w : World) (hn : n ≤ 9223372036854775807) (hw : RdW w w.heap.size A ws) (hl : ws.length = n)
    (hs : ∀ x ∈ ws, x.word.size ≤ 9223372036854775807) (h0 : qckE p s ws ≠ 0) :
    Calls Try.prog 76 #[.agg #[.int .i64 p, .slice A n c], .int .i64 s] w (RetQE [] (qckE p s ws) w) := by
  have HW := Lib.hid hw
  have CC := Lib.hid (fun W sb (hb : Below w.heap.size w W) hS => qCheck p s A n c sb ws W hn (HW.out.up hb) hl hs hS)
  have he : (qckE p s ws != 0) = true := bne_iff_ne.2 h0
  clear hw hn hl hs h0
  generalize qckE p s ws = er at *
  have HS : Has ((w.alloc (.cells #[.int .i64 p, .slice A n c] 24)).alloc (.cells #[.int .i64 s] 3)) w.heap.size 24 [.int .i64 p, .slice A n c] := (Has.new rfl).alloc _
  have B0 : Below w.heap.size w ((w.alloc (.cells #[.int .i64 p, .slice A n c] 24)).alloc (.cells #[.int .i64 s] 3)) := by go_grown
  have C1 := Lib.hid (CC.out _ _ B0 HS)
  have HB0 := Lib.hid B0
  clear HS B0 CC
  go_enter Try.func76, Try.ntmps76
  go_wp2_with fail
  refine C1.out.mono ?_
  rintro e w1 ⟨rfl, hb1⟩
  have HB := Lib.hid (bvia HB0.out hb1)
  clear hb1
  go_wp2
  go_ret2
  exact ⟨_, _, _, rfl, (fun k x hx => by simp at hx), rfl, Nat.le_refl _, by omega, HB.out⟩
end Go.Proofs.Ytnjenggijmbhcaa
