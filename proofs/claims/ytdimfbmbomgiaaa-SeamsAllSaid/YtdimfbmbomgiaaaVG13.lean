/-
  Contracts of the law's same and far.
-/
import Derived.Test.YtdimfbmbomgiaaaVG5
import Derived.Test.YtdimfbmbomgiaaaVG10
import Derived.Test.YtdimfbmbomgiaaaVG12
import Derived.BigQuiet
import Derived.Laws.MakeOwn
import Derived.Deep.RegionHeld3
import Derived.Deep.Cut
namespace Go.Proofs.Ytdimfbmbomgiaaa
open Go.RowKit
def GreatR (e : Ending) : Prop := ∃ b : Bool, e = .returned (.bool b)
theorem GreatR.of {v : Value} {b : Bool} (h : v = .bool b) : GreatR (.returned v) := ⟨b, by rw [h]⟩
set_option maxRecDepth 100000 in
set_option maxHeartbeats 1000000 in
theorem far24 (p : Int) (A : Option Addr) (n c : Nat) (ws : List Wk) (w : World) (hn : n ≤ 9223372036854775807) (hw : RdW w w.heap.size A ws) (hl : ws.length = n) (hs : ∀ x ∈ ws, x.word.size ≤ 9223372036854775807) :
    Calls Try.prog 9 #[.agg #[.int .i64 p, .slice A n c]] w fun e w' => GreatR e ∧ Below w.heap.size w w' := by
  have HW := Lib.hid hw; clear hw
  have HL := Lib.hid hl; clear hl
  have HS := Lib.hid hs; clear hs
  have K0 : Has (w.alloc (.cells #[.int .i64 p, .slice A n c] 24)) w.heap.size 24 [.int .i64 p, .slice A n c] := Has.new rfl
  by_cases h1 : (60 < n ∧ n ≤ 400) ∨ 2000 < n
  · have hx : ((60 : Int) < (n : Int) ∧ (n : Int) ≤ 400) ∨ ((2000 : Int) < (n : Int)) := by omega
    clear h1
    rcases hx with ⟨h1, h2⟩ | h1
    · have d1 : decide ((60 : Int) < (n : Int)) = true := decide_eq_true h1
      have d2 : decide ((n : Int) ≤ 400) = true := decide_eq_true h2
      go_enter Try.func9, Try.ntmps9
      go_wp2
      all_goals go_ret
      all_goals exact ⟨GreatR.of rfl, by go_grown⟩
    · have d1 : decide ((60 : Int) < (n : Int)) = true := decide_eq_true (by omega)
      have d2 : decide ((n : Int) ≤ 400) = false := decide_eq_false (by omega)
      have d3 : decide ((2000 : Int) < (n : Int)) = true := decide_eq_true h1
      go_enter Try.func9, Try.ntmps9
      go_wp2
      all_goals go_ret
      all_goals exact ⟨GreatR.of rfl, by go_grown⟩
  · have hx : ¬ ((60 : Int) < (n : Int)) ∨ ((60 : Int) < (n : Int) ∧ ¬ (n : Int) ≤ 400) := by omega
    have d3 : decide ((2000 : Int) < (n : Int)) = false := decide_eq_false (by omega)
    have d0 : (decide ((60 : Int) < (n : Int)) && decide ((n : Int) ≤ 400)) = false := by
      rcases hx with h | ⟨_, h⟩
      · rw [decide_eq_false h]; rfl
      · rw [decide_eq_false h, Bool.and_false]
    rcases hx with hx | ⟨hx, hy⟩
    case inl =>
      have d1 : decide ((60 : Int) < (n : Int)) = false := decide_eq_false hx
      go_enter Try.func9, Try.ntmps9
      go_wp2
      go_loopw [3] (fun i wr => ∃ k : Nat, k ≤ n ∧ i = .int .i64 (k : Int) ∧ wr = w.alloc (.cells #[.int .i64 p, .slice A n c] 24)) (fun i _ => n - (intOf i).toNat)
      case atStart => exact ⟨0, Nat.zero_le _, rfl, rfl⟩
      case round =>
        obtain ⟨k, hk, rfl, hwr⟩ := hrel
        have HB : Has wr w.heap.size 24 [.int .i64 p, .slice A n c] := by rw [hwr]; exact K0
        have B1 : Below w.heap.size w wr := by rw [hwr]; go_grown
        have HWR := Lib.hid hwr
        have a1 : wr.cell? ⟨w.heap.size, 1, none⟩ = some (.slice A n c) := HB.cell 1
        have q := HB.lt
        clear hwr K0
        by_cases hlt : k < n
        · obtain ⟨x, hx⟩ := get_of_lt (l := ws) (k := k) (by rw [HL.out]; exact hlt)
          obtain ⟨ba, o, rfl, hba, c0, c1, c2⟩ := (HW.out.up B1) _ x hx
          have hsx := HS.out x (mem_of_get hx)
          have jn : (k : Int) < (n : Int) := by omega
          clear hx
          by_cases hs1 : 1000 < x.word.size
          · have e1 : decide ((1000 : Int) < (x.word.size : Int)) = true := decide_eq_true (by omega)
            go_wp2
            go_ret
            exact ⟨GreatR.of rfl, B1⟩
          · have e1 : decide ((1000 : Int) < (x.word.size : Int)) = false := decide_eq_false (by omega)
            go_wp2
            go_roundw
            case rel => exact ⟨k + 1, by omega, by go_num, HWR.out⟩
            case measure => first | (simp [intOf]; done) | (simp [intOf]; omega)
        · obtain rfl : n = k := by omega
          go_wp2
          go_ret
          exact ⟨GreatR.of rfl, B1⟩
    case inr =>
      have d1 : decide ((60 : Int) < (n : Int)) = true := decide_eq_true hx
      have d2 : decide ((n : Int) ≤ 400) = false := decide_eq_false hy
      go_enter Try.func9, Try.ntmps9
      go_wp2
      go_loopw [3] (fun i wr => ∃ k : Nat, k ≤ n ∧ i = .int .i64 (k : Int) ∧ wr = w.alloc (.cells #[.int .i64 p, .slice A n c] 24)) (fun i _ => n - (intOf i).toNat)
      case atStart => exact ⟨0, Nat.zero_le _, rfl, rfl⟩
      case round =>
        obtain ⟨k, hk, rfl, hwr⟩ := hrel
        have HB : Has wr w.heap.size 24 [.int .i64 p, .slice A n c] := by rw [hwr]; exact K0
        have B1 : Below w.heap.size w wr := by rw [hwr]; go_grown
        have HWR := Lib.hid hwr
        have a1 : wr.cell? ⟨w.heap.size, 1, none⟩ = some (.slice A n c) := HB.cell 1
        have q := HB.lt
        clear hwr K0
        by_cases hlt : k < n
        · obtain ⟨x, hx⟩ := get_of_lt (l := ws) (k := k) (by rw [HL.out]; exact hlt)
          obtain ⟨ba, o, rfl, hba, c0, c1, c2⟩ := (HW.out.up B1) _ x hx
          have hsx := HS.out x (mem_of_get hx)
          have jn : (k : Int) < (n : Int) := by omega
          clear hx
          by_cases hs1 : 1000 < x.word.size
          · have e1 : decide ((1000 : Int) < (x.word.size : Int)) = true := decide_eq_true (by omega)
            go_wp2
            go_ret
            exact ⟨GreatR.of rfl, B1⟩
          · have e1 : decide ((1000 : Int) < (x.word.size : Int)) = false := decide_eq_false (by omega)
            go_wp2
            go_roundw
            case rel => exact ⟨k + 1, by omega, by go_num, HWR.out⟩
            case measure => first | (simp [intOf]; done) | (simp [intOf]; omega)
        · obtain rfl : n = k := by omega
          go_wp2
          go_ret
          exact ⟨GreatR.of rfl, B1⟩
theorem rdI_nat {w : World} {B : Nat} {A : Option Addr} {l : List Nat} (h : Rd1 vNat w B A l) : RdI w B A (l.map (fun (k : Nat) => (k : Int))) := fun k x hx => by
  rw [List.getElem?_map] at hx
  cases hl : l[k]? with
  | none => rw [hl] at hx; cases hx
  | some y =>
    rw [hl] at hx
    injection hx with hx
    obtain ⟨b, o, h1, h2, h3⟩ := h k y hl
    exact ⟨b, o, h1, h2, by rw [h3, ← hx]⟩
theorem nat_inj : ∀ (a b : List Nat), a.map (fun (k : Nat) => (k : Int)) = b.map (fun (k : Nat) => (k : Int)) → a = b
  | [], [], _ => rfl
  | [], _ :: _, h => by simp at h
  | _ :: _, [], h => by simp at h
  | x :: a, y :: b, h => by
    rw [List.map_cons, List.map_cons] at h
    injection h with h1 h2
    rw [nat_inj a b h2, show x = y by omega]
theorem natInt_eq (a b : List Nat) : (a.map (fun (k : Nat) => (k : Int)) == b.map (fun (k : Nat) => (k : Int))) = (a == b) := by
  by_cases h : a = b
  · subst h; simp
  · have h2 : a.map (fun (k : Nat) => (k : Int)) ≠ b.map (fun (k : Nat) => (k : Int)) := fun e => h (nat_inj a b e)
    rw [beq_eq_false_iff_ne.2 h, beq_eq_false_iff_ne.2 h2]
/-- are the first k lists equal? -/
def sameTo (xs ys : List (List Nat)) (k : Nat) : Bool := (xs.take k == ys.take k)
set_option maxRecDepth 100000 in
set_option maxHeartbeats 1000000 in
theorem same18 (A B : Option Addr) (n m c d : Nat) (xs ys : List (List Nat)) (w : World) (hn : n ≤ 9223372036854775807) (hm : m ≤ 9223372036854775807) (hx : RdL w w.heap.size A xs) (hy : RdL w w.heap.size B ys) (hl : xs.length = n) (hl' : ys.length = m) (hxl : ∀ l ∈ xs, l.length ≤ 48) (hyl : ∀ l ∈ ys, l.length ≤ 48) :
    Calls Try.prog 18 #[.slice A n c, .slice B m d] w fun e w' => e = .returned (.bool (xs == ys)) ∧ Below w.heap.size w w' := by
  have HX := Lib.hid hx; clear hx
  have HY := Lib.hid hy; clear hy
  have HL := Lib.hid hl; clear hl
  have HL' := Lib.hid hl'; clear hl'
  have HXL := Lib.hid hxl; clear hxl
  have HYL := Lib.hid hyl; clear hyl
  by_cases hnm : n = m
  case neg =>
    have hd : ((n : Int) != (m : Int)) = true := by simp; omega
    have HE : Hid ((xs == ys) = false) := by
      show _ = _
      rw [beq_eq_false_iff_ne]
      intro e
      have h1 := HL.out; have h2 := HL'.out
      rw [e] at h1; omega
    clear hnm
    go_enter Try.func18, Try.ntmps18
    go_wp2
    go_ret
    exact ⟨by rw [HE.out]; rfl, Below.refl _ _⟩
  subst hnm
  go_enter Try.func18, Try.ntmps18
  go_wp2
  go_loopw [5] (fun v wr => ∃ k : Nat, k ≤ n ∧ v = .int .i64 (k : Int) ∧ Hid (xs.take k = ys.take k) ∧ Hid (Below w.heap.size w wr)) (fun v _ => n - (intOf v).toNat)
  case atStart => exact ⟨0, Nat.zero_le _, rfl, rfl, Below.refl _ _⟩
  case round =>
    obtain ⟨k, hk, rfl, HT, HB⟩ := hrel
    obtain ⟨wo, rfl⟩ : ∃ wo : World, wo = wr := ⟨_, rfl⟩
    by_cases hlt : k < n
    · have jk : (k : Int) < (n : Int) := by omega
      obtain ⟨x, hxk⟩ := get_of_lt (l := xs) (k := k) (by rw [HL.out]; exact hlt)
      obtain ⟨y, hyk⟩ := get_of_lt (l := ys) (k := k) (by rw [HL'.out]; exact hlt)
      obtain ⟨b1, o1, A1, c1, e1, hb1, cx, rx⟩ := (HX.out.up HB.out) k x hxk
      obtain ⟨b2, o2, A2, c2, e2, hb2, cy, ry⟩ := (HY.out.up HB.out) k y hyk
      subst e1 e2
      have lx := HXL.out x (mem_of_get hxk)
      have ly := HYL.out y (mem_of_get hyk)
      have HXK := Lib.hid hxk; have HYK := Lib.hid hyk
      have CS := Lib.hid (fun (W : World) (hb : Below wo.heap.size wo W) => sameInts04 A1 A2 x.length y.length c1 c2 _ _ W (by omega) (by omega) ((rdI_nat rx).up hb) ((rdI_nat ry).up hb) (List.length_map _) (List.length_map _))
      rw [natInt_eq] at CS
      have HRX := Lib.hid rx; have HRY := Lib.hid ry
      clear hxk hyk rx ry
      by_cases hxy : x = y
      · have hd : (x == y) = true := by simpa using hxy
        rw [hd] at CS
        have HXY := Lib.hid hxy
        clear hxy hd
        go_wp2
        go_region_held3 (fun W' => W'.cell? ⟨b1, o1 + k, none⟩ = some (.slice A1 x.length c1) ∧ W'.cell? ⟨b2, o2 + k, none⟩ = some (.slice A2 y.length c2)) (first | exact ⟨cx, cy⟩ | exact ⟨by assumption, by assumption⟩ | go_keep) (first | (go_simp; go_at_call 39; refine (CS.out _ (below_drewN (Below.refl _ _) _)).mono ?_; rintro e w3 ⟨rfl, hb3⟩; have m0 := (hb3.cell (p := ⟨b1, o1 + k, none⟩) hb1).trans cx; have m1 := (hb3.cell (p := ⟨b2, o2 + k, none⟩) hb2).trans cy) | fail)
        go_wp2
        go_roundw
        case rel =>
          refine ⟨k + 1, by omega, by go_num, ?_, bvia HB.out ((below_drewN (Below.refl _ _) 1).trans hb3)⟩
          show _ = _
          rw [List.take_add_one, List.take_add_one, HXK.out, HYK.out, HT.out, HXY.out]
        case measure => first | (simp [intOf]; done) | (simp [intOf]; omega)
      · have hd : (x == y) = false := by simpa using hxy
        rw [hd] at CS
        have HE : Hid ((xs == ys) = false) := by
          show _ = _
          rw [beq_eq_false_iff_ne]
          intro e
          have h1 := HXK.out
          rw [e, HYK.out] at h1
          injection h1 with h1
          exact hxy h1.symm
        clear hxy hd
        go_wp2
        go_region_held3 (fun W' => W'.cell? ⟨b1, o1 + k, none⟩ = some (.slice A1 x.length c1) ∧ W'.cell? ⟨b2, o2 + k, none⟩ = some (.slice A2 y.length c2)) (first | exact ⟨cx, cy⟩ | exact ⟨by assumption, by assumption⟩ | go_keep) (first | (go_simp; go_at_call 39; refine (CS.out _ (below_drewN (Below.refl _ _) _)).mono ?_; rintro e w3 ⟨rfl, hb3⟩; have m0 := (hb3.cell (p := ⟨b1, o1 + k, none⟩) hb1).trans cx; have m1 := (hb3.cell (p := ⟨b2, o2 + k, none⟩) hb2).trans cy) | fail)
        go_wp2
        go_ret
        exact ⟨by rw [HE.out]; rfl, bvia HB.out ((below_drewN (Below.refl _ _) 1).trans hb3)⟩
    · obtain rfl : k = n := by omega
      have HE : Hid (xs = ys) := by
        have h1 := HT.out
        rw [List.take_of_length_le (by rw [HL.out]; exact Nat.le_refl _), List.take_of_length_le (by rw [HL'.out]; exact Nat.le_refl _)] at h1
        exact h1
      go_wp2
      go_ret
      exact ⟨by rw [show (xs == ys) = true by rw [HE.out]; simp]; rfl, HB.out⟩
end Go.Proofs.Ytdimfbmbomgiaaa
/-
  Plain words of knots: what is sewn to what, and how often knots cross.
-/
namespace Go.Proofs.Ytdimfbmbomgiaaa
open Go.RowKit
def knotL (P s : Nat) : List (Nat × Nat) := (List.range P).map (fun p => (p, (p + s) % P))
def knC (q : Nat × Nat) : List Value := [vNat q.1, vNat q.2]
def knsC (ks : List (Nat × Nat)) : List Value := ks.flatMap knC
/-- knots in memory -/
def RdK (w : World) (B : Nat) (A : Option Addr) (ks : List (Nat × Nat)) : Prop :=
  ∀ (k : Nat) (x : Nat × Nat), ks[k]? = some x → ∃ b o, A = some ⟨b, o, none⟩ ∧ b < B ∧ w.cell? ⟨b, o + k*2, none⟩ = some (vNat x.1) ∧ w.cell? ⟨b, o + k*2 + 1, none⟩ = some (vNat x.2)
theorem RdK.below {w w' : World} {B B' : Nat} {A : Option Addr} {ks : List (Nat × Nat)} (h : RdK w B A ks) (hb : Below B w w') (hB : B ≤ B') : RdK w' B' A ks := fun k x hx => by
  obtain ⟨b, o, h1, h2, h3, h4⟩ := h k x hx
  exact ⟨b, o, h1, Nat.lt_of_lt_of_le h2 hB, (hb.cell h2).trans h3, (hb.cell h2).trans h4⟩
theorem RdK.up {w w' : World} {A : Option Addr} {ks : List (Nat × Nat)} (h : RdK w w.heap.size A ks) (hb : Below w.heap.size w w') : RdK w' w'.heap.size A ks := h.below hb hb.size
theorem knsC_len (ks : List (Nat × Nat)) : (knsC ks).length = ks.length * 2 := by
  induction ks with
  | nil => rfl
  | cons x ks ih => simp only [knsC, List.flatMap_cons, List.length_append] at ih ⊢; rw [ih]; simp [knC]; omega
theorem knsC_get {ks : List (Nat × Nat)} {k : Nat} {x : Nat × Nat} (hx : ks[k]? = some x) : (knsC ks)[k*2]? = some (vNat x.1) ∧ (knsC ks)[k*2+1]? = some (vNat x.2) := by
  induction ks generalizing k with
  | nil => simp at hx
  | cons y ks ih =>
    cases k with
    | zero => simp at hx; subst hx; simp [knsC, knC]
    | succ k =>
      have := ih (k := k) (by simpa using hx)
      have e1 : (k + 1) * 2 = k * 2 + 2 := by omega
      simp only [knsC, List.flatMap_cons] at this ⊢
      rw [e1]
      have hl : (knC y).length = 2 := rfl
      refine ⟨?_, ?_⟩ <;> (rw [List.getElem?_append_right (by rw [hl]; omega), hl])
      · rw [show k * 2 + 2 - 2 = k * 2 by omega]; exact this.1
      · rw [show k * 2 + 2 + 1 - 2 = k * 2 + 1 by omega]; exact this.2
theorem knsC_app (a b : List (Nat × Nat)) : knsC (a ++ b) = knsC a ++ knsC b := by simp [knsC]
theorem rdK_has {w : World} {g : Nat} {t : TypeId} {ks : List (Nat × Nat)} {rest : List Value} (h : Has w g t (knsC ks ++ rest)) : RdK w w.heap.size (some ⟨g, 0, none⟩) ks := fun k x hx => by
  obtain ⟨e1, e2⟩ := knsC_get hx
  have hk := lt_of_get hx
  refine ⟨g, 0, rfl, h.lt, ?_, ?_⟩
  · rw [Nat.zero_add, h.cell, List.getElem?_append_left (by rw [knsC_len]; omega)]; exact e1
  · rw [Nat.zero_add, h.cell, List.getElem?_append_left (by rw [knsC_len]; omega)]; exact e2
theorem own_rdK {w : World} {base : Nat} {e : TypeId} {n c : Nat} {A : Option Addr} {ks : List (Nat × Nat)} (h : w.ownsRow base e 2 (.slice A n c) n (knsC ks)) : RdK w w.heap.size A ks := fun k x hx => by
  obtain ⟨e1, e2⟩ := knsC_get hx
  obtain ⟨g, h1, _, h2, h3⟩ := own_at h e1
  obtain ⟨g2, h4, _, _, h5⟩ := own_at h e2
  obtain rfl : g = g2 := by rw [h1] at h4; injection h4 with h4; injection h4
  exact ⟨g, 0, h1, h2, by rw [Nat.zero_add]; exact h3, by rw [Nat.zero_add]; exact h5⟩
theorem knotL_len (P s : Nat) : (knotL P s).length = P := by simp [knotL]
theorem knotL_get {P s k : Nat} (h : k < P) : (knotL P s)[k]? = some (k, (k + s) % P) := by simp [knotL, h]
theorem knot_take {P s k : Nat} (h : k < P) : (knotL P s).take (k + 1) = (knotL P s).take k ++ [(k, (k + s) % P)] := by
  rw [List.take_add_one, knotL_get h]; rfl
/-- two knots cross -/
theorem knot_cross {P s k p : Nat} (hs : s < P) (hk : k < p) (hp : p < P) : ((p + s) % P < (k + s) % P) ↔ (P - s ≤ p ∧ k < P - s) := by
  have h1 : ∀ x, x < P → (x + s) % P = if x < P - s then x + s else x + s - P := fun x hx => by
    split
    · exact Nat.mod_eq_of_lt (by omega)
    · rw [Nat.mod_eq_sub_mod (by omega), Nat.mod_eq_of_lt (by omega)]
  rw [h1 p hp, h1 k (by omega)]
  split <;> split <;> omega
/-- how often knots cross, up to the k-th before the p-th -/
def crossN (P s p k : Nat) : Nat := (p - (P - s)) * (P - s) + if P - s ≤ p then min k (P - s) else 0
theorem crossN_zero (P s : Nat) (hs : s < P) : crossN P s 0 0 = 0 := by
  unfold crossN; rw [Nat.zero_sub, Nat.zero_mul, if_neg (by omega)]
theorem crossN_next {P s p : Nat} : crossN P s p p = crossN P s (p + 1) 0 := by
  unfold crossN
  by_cases h : P - s ≤ p
  · rw [if_pos h, if_pos (by omega), show p + 1 - (P - s) = (p - (P - s)) + 1 by omega, Nat.add_mul]; omega
  · rw [if_neg h, show p - (P - s) = 0 by omega, show p + 1 - (P - s) = 0 by omega]
    split <;> omega
theorem crossN_step {P s p k : Nat} (hs : s < P) (hk : k < p) (hp : p < P) : crossN P s p (k + 1) = crossN P s p k + if (p + s) % P < (k + s) % P then 1 else 0 := by
  unfold crossN
  by_cases h : P - s ≤ p
  · rw [if_pos h, if_pos h]
    by_cases h2 : k < P - s
    · rw [if_pos ((knot_cross hs hk hp).2 ⟨h, h2⟩)]; omega
    · rw [if_neg (fun h3 => h2 ((knot_cross hs hk hp).1 h3).2)]; omega
  · rw [if_neg h, if_neg h, if_neg (fun h3 => h ((knot_cross hs hk hp).1 h3).1)]
theorem crossN_all {P s : Nat} (hs : s < P) : crossN P s P 0 = s * (P - s) := by
  unfold crossN
  rw [show P - (P - s) = s by omega, if_pos (by omega)]; omega
theorem crossN_le {P s p k : Nat} (hP : P ≤ 24) (hp : p ≤ P) : crossN P s p k ≤ 1000 := by
  unfold crossN
  have h1 : (p - (P - s)) * (P - s) ≤ 24 * 24 := Nat.mul_le_mul (by omega) (by omega)
  split <;> omega
/-- the knots and how often they cross: nothing where there is an error -/
def knR (p : Int) (ws : List Wk) (h : Int) : List (Nat × Nat) := if seE p ws h = 0 then knotL p.toNat h.toNat else []
def kcR (p : Int) (ws : List Wk) (h : Int) : Int := if seE p ws h = 0 then ((h.toNat * (p.toNat - h.toNat) : Nat) : Int) else 0
/-- an ending: knots in memory, a number and an error -/
def RetKE (ks : List (Nat × Nat)) (k err : Int) (w : World) (e : Ending) (w' : World) : Prop := ∃ A n c, e = .returned (.tuple #[.slice A n c, .int .i64 k, .int .i64 err]) ∧ RdK w' w'.heap.size A ks ∧ ks.length = n ∧ n ≤ c ∧ c ≤ 9223372036854775807 ∧ Below w.heap.size w w'
theorem infoKn : (Try.prog.info? 40).map (fun i => (i.zero, i.size, i.bytes)) = some (some (.agg #[.int .i64 0, .int .i64 0]), 2, 16) := by kernel_rfl
theorem made2 (z : Value) (n : Nat) : madeCells #[z, z] n = (List.replicate n z).toArray := by
  apply Array.ext
  · rw [size_madeCells]; simp
  · intro i h1 h2
    have h3 : i % 2 = 0 ∨ i % 2 = 1 := by omega
    unfold madeCells
    rcases h3 with h3 | h3 <;> simp [h3]
theorem mkKn (n : Nat) (hn : n ≤ 1000) (W : World) : (Instr.makeSlice 32 (.int .i64 (n : Int)) (.int .i64 (n : Int))).run Try.prog W = .ok (.slice (some ⟨W.heap.size, 0, none⟩) n n) (W.alloc (.cells (List.replicate (n * 2) (vInt 0)).toArray 40)) := by
  obtain ⟨i, hi, hz, hs, hb⟩ := info_parts infoKn
  have h := run_make (P := Try.prog) W 32 40 i (.agg #[.int .i64 0, .int .i64 0]) Try.underlying32 hi hz .i64 .i64 (n : Int) (n : Int) (by omega) (Int.le_refl _) (by rw [hb]; omega) (by omega)
  rw [hs] at h
  simpa [Value.cells, made2] using h
end Go.Proofs.Ytdimfbmbomgiaaa
/-
  Contracts of seams.Knots and torchonref24.Knots.
-/
namespace Go.Proofs.Ytdimfbmbomgiaaa
open Go.RowKit
set_option maxRecDepth 100000 in
set_option maxHeartbeats 2000000 in
theorem knots14 (p : Int) (A : Option Addr) (n c : Nat) (h : Int) (ws : List Wk) (w : World) (hn : n ≤ 9223372036854775807) (hw : RdW w w.heap.size A ws) (hl : ws.length = n)
    (hs : ∀ x ∈ ws, x.word.size ≤ 9223372036854775807) :
    Calls Try.prog 14 #[.agg #[.int .i64 p, .slice A n c], .int .i64 h] w (RetKE (knR p ws h) (kcR p ws h) (seE p ws h) w) := by
  have CA := Lib.hid (fun (W : World) (hb : Below w.heap.size w W) => asked31 p A n c h ws W hn (hw.up hb) hl hs)
  have K0 : Has (w.alloc (.cells #[.int .i64 p, .slice A n c] 24)) w.heap.size 24 [.int .i64 p, .slice A n c] := Has.new rfl
  by_cases hE : seE p ws h = 0
  case neg =>
    have e1 : knR p ws h = [] := by unfold knR; rw [if_neg hE]
    have e2 : kcR p ws h = 0 := by unfold kcR; rw [if_neg hE]
    rw [e1, e2]
    have hd : (seE p ws h != 0) = true := by simpa using hE
    generalize seE p ws h = q at *
    clear hE e1 e2 hw hl hs
    go_enter Try.func14, Try.ntmps14
    go_wp2_with fail
    refine (CA.out _ (by go_grown)).mono ?_
    rintro e w1 ⟨rfl, hb1⟩
    have B1 : Below w.heap.size w w1 := bvia (show Below w.heap.size w _ by go_grown) hb1
    go_wp2
    refine bodyPost_ret (results_tmp3 rfl _ _ _) rfl ?_
    exact ⟨none, 0, 0, rfl, fun k x hx => by simp at hx, rfl, Nat.le_refl _, by omega, B1⟩
  obtain ⟨g1, g2, g3⟩ := seE_zero hE
  have HOK := Lib.hid (schk_zero g1)
  obtain ⟨P, rfl⟩ := Int.eq_ofNat_of_zero_le (show 0 ≤ p by have := HOK.out.ge; omega)
  obtain ⟨H, rfl⟩ := Int.eq_ofNat_of_zero_le g2
  have e1 : knR (P : Int) ws (H : Int) = knotL P H := by unfold knR; rw [if_pos hE]; simp
  have e2 : kcR (P : Int) ws (H : Int) = ((H * (P - H) : Nat) : Int) := by unfold kcR; rw [if_pos hE]; simp
  rw [e1, e2]
  rw [hE] at CA ⊢
  have hP : 2 ≤ P ∧ P ≤ 24 ∧ H < P := by have := HOK.out.ge; have := HOK.out.le; omega
  have hmk := mkKn P (by omega)
  have hHP : H * (P - H) ≤ 24 * 24 := Nat.mul_le_mul (by omega) (by omega)
  have eHP : (H : Int) * ((P : Int) - (H : Int)) = ((H * (P - H) : Nat) : Int) := by
    rw [show (P : Int) - (H : Int) = ((P - H : Nat) : Int) by omega, Int.natCast_mul]
  have i5 : IntKind.i64.wrap ((P : Int) - (H : Int)) = (P : Int) - (H : Int) := IntWalk.i64_in _ (by omega)
  have i6 : IntKind.i64.wrap ((H : Int) * ((P : Int) - (H : Int))) = (H : Int) * ((P : Int) - (H : Int)) := by rw [eHP]; exact IntWalk.i64_in _ (by omega)
  have HEHP := Lib.hid eHP
  clear hE e1 e2 g1 g2 g3 hw hl hs hHP eHP
  go_enter Try.func14, Try.ntmps14
  go_wp2_with fail
  refine (CA.out _ (by go_grown)).mono ?_
  rintro e w1 ⟨rfl, hb1⟩
  have HB := Lib.hid (bvia (show Below w.heap.size w _ by go_grown) hb1)
  have HK := Lib.hid (K0.below hb1 K0.lt)
  have n0 : w1.cell? ⟨w.heap.size, 0, none⟩ = some (.int .i64 (P : Int)) := HK.out.cell 0
  have q0 := HK.out.lt
  clear K0 hb1
  go_wp2
  go_loopw [21] (fun v wr => ∃ j : Nat, j ≤ P ∧ v = .int .i64 (j : Int) ∧ Hid (∃ rest : List Value, rest.length = (P - j) * 2 ∧ Has wr w1.heap.size 40 (knsC ((knotL P H).take j) ++ rest)) ∧ Hid (Below w1.heap.size w1 wr)) (fun v _ => P - (intOf v).toNat)
  case atStart =>
    refine ⟨0, Nat.zero_le _, rfl, ⟨List.replicate (P * 2) (vInt 0), by rw [List.length_replicate]; rfl, Has.new rfl⟩, ?_⟩
    show Below _ _ _
    go_grown
  case round =>
    clear n0 hmk
    obtain ⟨j, hj, rfl, HS, HB1⟩ := hrel
    obtain ⟨wo, rfl⟩ : ∃ wo : World, wo = wr := ⟨_, rfl⟩
    have HK1 := Lib.hid (HK.out.below HB1.out q0)
    have n0 : wo.cell? ⟨w.heap.size, 0, none⟩ = some (.int .i64 (P : Int)) := HK1.out.cell 0
    have q1 := HK1.out.lt
    by_cases hlt : j < P
    · have jk : (j : Int) < (P : Int) := by omega
      obtain ⟨rest, hrl, hG⟩ := HS.out
      obtain ⟨r0, r1, rs, rfl⟩ : ∃ r0 r1 rs, rest = r0 :: r1 :: rs := by
        match rest, hrl with
        | [], h => simp at h; omega
        | [_], h => simp at h; omega
        | a :: b :: r, _ => exact ⟨a, b, r, rfl⟩
      have hkl : (knsC ((knotL P H).take j)).length = j * 2 := by rw [knsC_len, List.length_take, knotL_len]; omega
      have c0 : wo.cell? ⟨w1.heap.size, j * 2, none⟩ = some r0 := by
        rw [hG.cell, List.getElem?_append_right (by omega), hkl, Nat.sub_self]; rfl
      have c1 : wo.cell? ⟨w1.heap.size, j * 2 + 1, none⟩ = some r1 := by
        rw [hG.cell, List.getElem?_append_right (by omega), hkl, show j * 2 + 1 - j * 2 = 1 by omega]; rfl
      have f0 := hG.free (j * 2)
      have f1 := hG.free (j * 2 + 1)
      have qg := hG.lt
      have i0 : IntKind.i64.wrap ((j : Int) + (H : Int)) = (j : Int) + (H : Int) := IntWalk.i64_in _ (by omega)
      have i1 : (0 : Int) ≤ (j : Int) + (H : Int) := by omega
      have i2 : ¬ P = 0 := by omega
      have HG := Lib.hid hG; have HRL := Lib.hid hrl; have HKL := Lib.hid hkl
      clear hG hrl hkl
      go_wp2
      go_roundw
      case rel =>
        refine ⟨j + 1, by omega, by go_num, ⟨rs, by have := HRL.out; simp at this; omega, ?_⟩, (HB1.out.setCell (Nat.le_refl _) _).setCell (Nat.le_refl _) _⟩
        have h1 := (HG.out.set (j * 2) (vInt (j : Int))).set (j * 2 + 1) (vInt ((((j + H) % P : Nat)) : Int))
        rw [List.set_append_right _ _ (by rw [HKL.out]; exact Nat.le_refl _), HKL.out, Nat.sub_self, List.set_append_right _ _ (by rw [HKL.out]; omega), HKL.out, show j * 2 + 1 - j * 2 = 1 by omega] at h1
        have e : ((j : Int) + (H : Int)) % (P : Int) = (((j + H) % P : Nat) : Int) := by rw [Int.natCast_emod]; congr 1
        rw [e, knot_take hlt, knsC_app, List.append_assoc]
        exact h1
      case measure => first | (simp [intOf]; done) | (simp [intOf]; omega)
    · obtain rfl : j = P := by omega
      go_wp2
      go_region_held3 (fun W' => W'.cell? ⟨w.heap.size, 0, none⟩ = some (.int .i64 (j : Int))) (first | exact n0 | go_keep) (fail)
      go_wp2
      refine bodyPost_ret (results_tmp3 rfl _ _ _) rfl ?_
      obtain ⟨rest, hrl, hG⟩ := HS.out
      rw [List.take_of_length_le (by rw [knotL_len]; exact Nat.le_refl _)] at hG
      refine ⟨some ⟨w1.heap.size, 0, none⟩, j, j, ?_, rdK_has hG.drew, knotL_len _ _, Nat.le_refl _, by omega, (bvia HB.out HB1.out).drew⟩
      rw [← HEHP.out]; rfl
set_option maxRecDepth 100000 in
set_option maxHeartbeats 4000000 in
theorem knots15 (p : Int) (A : Option Addr) (n c : Nat) (h : Int) (ws : List Wk) (w : World) (hn : n ≤ 9223372036854775807) (hw : RdW w w.heap.size A ws) (hl : ws.length = n)
    (hs : ∀ x ∈ ws, x.word.size ≤ 9223372036854775807) :
    Calls Try.prog 15 #[.agg #[.int .i64 p, .slice A n c], .int .i64 h] w (RetKE (knR p ws h) (kcR p ws h) (seE p ws h) w) := by
  have CA := Lib.hid (fun (W : World) (hb : Below w.heap.size w W) => asked32 p A n c h ws W hn (hw.up hb) hl hs)
  have K0 : Has (w.alloc (.cells #[.int .i64 p, .slice A n c] 24)) w.heap.size 24 [.int .i64 p, .slice A n c] := Has.new rfl
  by_cases hE : seE p ws h = 0
  case neg =>
    have e1 : knR p ws h = [] := by unfold knR; rw [if_neg hE]
    have e2 : kcR p ws h = 0 := by unfold kcR; rw [if_neg hE]
    rw [e1, e2]
    have hd : (seE p ws h != 0) = true := by simpa using hE
    generalize seE p ws h = q at *
    clear hE e1 e2 hw hl hs
    go_enter Try.func15, Try.ntmps15
    go_wp2_with fail
    refine (CA.out _ (by go_grown)).mono ?_
    rintro e w1 ⟨rfl, hb1⟩
    have B1 : Below w.heap.size w w1 := bvia (show Below w.heap.size w _ by go_grown) hb1
    go_wp2
    refine bodyPost_ret (results_tmp3 rfl _ _ _) rfl ?_
    exact ⟨none, 0, 0, rfl, fun k x hx => by simp at hx, rfl, Nat.le_refl _, by omega, B1⟩
  obtain ⟨g1, g2, g3⟩ := seE_zero hE
  have HOK := Lib.hid (schk_zero g1)
  obtain ⟨P, rfl⟩ := Int.eq_ofNat_of_zero_le (show 0 ≤ p by have := HOK.out.ge; omega)
  obtain ⟨H, rfl⟩ := Int.eq_ofNat_of_zero_le g2
  have e1 : knR (P : Int) ws (H : Int) = knotL P H := by unfold knR; rw [if_pos hE]; simp
  have e2 : kcR (P : Int) ws (H : Int) = ((H * (P - H) : Nat) : Int) := by unfold kcR; rw [if_pos hE]; simp
  rw [e1, e2]
  rw [hE] at CA ⊢
  have hP : 2 ≤ P ∧ P ≤ 24 ∧ H < P := by have := HOK.out.ge; have := HOK.out.le; omega
  clear hE e1 e2 g1 g2 g3 hw hl hs
  go_enter Try.func15, Try.ntmps15
  go_wp2_with fail
  refine (CA.out _ (by go_grown)).mono ?_
  rintro e w1 ⟨rfl, hb1⟩
  have HB := Lib.hid (bvia (show Below w.heap.size w _ by go_grown) hb1)
  have HK := Lib.hid (K0.below hb1 K0.lt)
  have n0 : w1.cell? ⟨w.heap.size, 0, none⟩ = some (.int .i64 (P : Int)) := HK.out.cell 0
  have q0 := HK.out.lt
  clear K0 hb1
  go_wp2
  go_loopw [8, 9, 10] (fun u v x wr => ∃ (j : Nat) (X : Option Addr) (d : Nat), j ≤ P ∧ x = .int .i64 (j : Int) ∧ u = .slice X j d ∧ v = .int .i64 ((crossN P H j 0 : Nat) : Int) ∧ Hid (wr.ownsRow w1.heap.size 40 2 (.slice X j d) j (knsC ((knotL P H).take j))) ∧ Hid (Below w1.heap.size w1 wr)) (fun _ _ x _ => P - (intOf x).toNat)
  case atStart => exact ⟨0, none, 0, Nat.zero_le _, rfl, rfl, by rw [crossN_zero P H (by omega)]; rfl, World.ownsRow_nil _ _ _ _, Below.refl _ _⟩
  case round =>
    clear n0
    obtain ⟨j, X, d, hj, rfl, rfl, rfl, HO, HB1⟩ := hrel
    obtain ⟨wo, rfl⟩ : ∃ wo : World, wo = wr := ⟨_, rfl⟩
    have HK1 := Lib.hid (HK.out.below HB1.out q0)
    have n0 : wo.cell? ⟨w.heap.size, 0, none⟩ = some (.int .i64 (P : Int)) := HK1.out.cell 0
    have q1 := HK1.out.lt
    have hsz := HB1.out.size
    by_cases hlt : j < P
    · have jk : (j : Int) < (P : Int) := by omega
      have i0 : IntKind.i64.wrap ((j : Int) + (H : Int)) = (j : Int) + (H : Int) := IntWalk.i64_in _ (by omega)
      have i1 : (0 : Int) ≤ (j : Int) + (H : Int) := by omega
      have i2 : ¬ P = 0 := by omega
      have HE : Hid (((j : Int) + (H : Int)) % (P : Int) = (((j + H) % P : Nat) : Int)) := by show _ = _; rw [Int.natCast_emod]; congr 1
      have HNW : Hid (∀ (i : Nat) u, ([vNat j, vInt (((j : Int) + (H : Int)) % (P : Int))] : List Value)[i]? = some u → (wo.alloc (.cells #[.int .i64 (j : Int), .int .i64 (((j : Int) + (H : Int)) % (P : Int))] 40)).cell? ⟨wo.heap.size, i, none⟩ = some u) := fun i u hu => by
        match i, hu with
        | 0, hu => simp at hu; subst hu; go_simp
        | 1, hu => simp at hu; subst hu; go_simp
        | i + 2, hu => simp at hu
      go_wp2_with (at_builtin; (refine wpList_app rfl (.tmp 24) (.tmp 33) _ rfl w1.heap.size 40 (.agg #[.int .i64 0, .int .i64 0]) 2 16 Try.underlying32 infoKn rfl (by omega) (by omega) _ _ _ rfl (HO.out.alloc _) wo.heap.size [vNat j, vInt (((j : Int) + (H : Int)) % (P : Int))] rfl rfl HNW.out (fun u hu => by simp at hu; rcases hu with rfl | rfl <;> rfl) (by omega) (by first | (simp; done) | (simp; omega)) ?_; intro ga cap1 w2 hg1 hown1 hgrow1 hor1))
      have hgz := hown1.lt ga rfl
      have B2 : Hid (Below w1.heap.size w1 w2) := (HB1.out.alloc hsz _).grown hgrow1 (Nat.le_trans hsz (by first | (simp; done) | (simp; omega))) (fun kk hk => (HO.out.lt kk hk).1)
      have HO2 : Hid (w2.ownsRow w1.heap.size 40 2 (.slice (some ⟨ga, 0, none⟩) (j + 1) cap1) (j + 1) (knsC ((knotL P H).take (j + 1)))) := by
        show World.ownsRow _ _ _ _ _ _ _
        rw [knot_take hlt, knsC_app]
        have h1 := hown1
        rw [HE.out] at h1
        exact h1
      clear hown1 hgrow1 hor1 HNW n0 HK1 q1 HO HB1 hgz i0 i1 i2 HE hsz
      go_loopw [9, 11] (fun u v wr => ∃ k : Nat, k ≤ j ∧ u = .int .i64 ((crossN P H j k : Nat) : Int) ∧ v = .int .i64 (k : Int) ∧ Hid (wr.ownsRow w1.heap.size 40 2 (.slice (some ⟨ga, 0, none⟩) (j + 1) cap1) (j + 1) (knsC ((knotL P H).take (j + 1)))) ∧ Hid (Below w1.heap.size w1 wr)) (fun _ v _ => j - (intOf v).toNat)
      case atStart => exact ⟨0, Nat.zero_le _, rfl, rfl, HO2, B2⟩
      case round =>
        clear HO2 B2
        obtain ⟨k, hk, rfl, rfl, HO, HB1⟩ := hrel
        obtain ⟨wo, rfl⟩ : ∃ wo : World, wo = wr := ⟨_, rfl⟩
        by_cases hkl : k < j
        · have kj : (k : Int) < (j : Int) := by omega
          have HST := Lib.hid (crossN_step (P := P) (s := H) (p := j) (k := k) (by omega) hkl hlt)
          have hle := crossN_le (P := P) (s := H) (p := j) (k := k) (by omega) hj
          have hget : ∀ i, i ≤ j → ((knotL P H).take (j + 1))[i]? = some (i, (i + H) % P) := fun i hi => by
            rw [List.getElem?_take, if_pos (by omega), knotL_get (by omega)]
          obtain ⟨g1, h1, _, h3, h4⟩ := own_at HO.out (knsC_get (hget k (by omega))).2
          obtain ⟨g2, h5, _, h7, h8⟩ := own_at HO.out (knsC_get (hget j (Nat.le_refl _))).2
          injection h1 with h1; injection h1 with h1; subst h1
          injection h5 with h5; injection h5 with h5; subst h5
          dsimp only at h4 h8
          clear h7 hget
          generalize hA : (k + H) % P = a at *
          generalize hB' : (j + H) % P = b at *
          have HA := Lib.hid hA
          clear hA hB'
          have i3 : k < j + 1 := by omega
          have i4 : (k : Int) < ((j + 1 : Nat) : Int) := by omega
          have i5 : (j : Int) < ((j + 1 : Nat) : Int) := by omega
          have i6 : (k : Int) < (j : Int) + 1 := by omega
          have i8 : (j : Int) < (j : Int) + 1 := by omega
          have i9 : j < j + 1 := by omega
          have i10 : (0 : Int) ≤ (j : Int) := by omega
          by_cases hab : b < a
          · have d1 : decide ((b : Int) < (a : Int)) = true := decide_eq_true (by omega)
            have HAB : Hid (crossN P H j (k + 1) = crossN P H j k + 1) := by show _ = _; rw [HST.out, if_pos hab]
            have i7 : IntKind.i64.wrap (((crossN P H j k : Nat) : Int) + 1) = ((crossN P H j k : Nat) : Int) + 1 := IntWalk.i64_in _ (by omega)
            go_wp2
            go_region_held3 (fun W' => W'.cell? ⟨ga, k * 2 + 1, none⟩ = some (vNat a) ∧ W'.cell? ⟨ga, j * 2 + 1, none⟩ = some (vNat b)) (first | exact ⟨h4, h8⟩ | go_keep) (fail)
            go_wp2
            go_roundw
            case rel => exact ⟨k + 1, by omega, by rw [HAB.out]; rfl, by go_num, own_same HO.out (fun _ _ => rfl), HB1.out.drew⟩
            case measure => first | (simp [intOf]; done) | (simp [intOf]; omega)
          · have d1 : decide ((b : Int) < (a : Int)) = false := decide_eq_false (by omega)
            have HAB : Hid (crossN P H j (k + 1) = crossN P H j k) := by show _ = _; rw [HST.out, if_neg hab]; rfl
            go_wp2
            go_region_held3 (fun W' => W'.cell? ⟨ga, k * 2 + 1, none⟩ = some (vNat a) ∧ W'.cell? ⟨ga, j * 2 + 1, none⟩ = some (vNat b)) (first | exact ⟨h4, h8⟩ | go_keep) (fail)
            go_wp2
            go_roundw
            case rel => exact ⟨k + 1, by omega, by rw [HAB.out], by go_num, own_same HO.out (fun _ _ => rfl), HB1.out.drew⟩
            case measure => first | (simp [intOf]; done) | (simp [intOf]; omega)
        · obtain rfl : k = j := by omega
          have HNX := Lib.hid (crossN_next (P := P) (s := H) (p := k))
          go_wp2
          go_roundw
          case rel => exact ⟨k + 1, some ⟨ga, 0, none⟩, cap1, by omega, by go_num, rfl, by rw [HNX.out], HO, HB1⟩
          case measure => first | (simp [intOf]; done) | (simp [intOf]; omega)
    · obtain rfl : j = P := by omega
      have hc := own_caps HO.out
      have HCA := Lib.hid (crossN_all (P := j) (s := H) (by omega))
      go_wp2
      refine bodyPost_ret (results_tmp3 rfl _ _ _) rfl ?_
      have hO := HO.out
      rw [List.take_of_length_le (by rw [knotL_len]; exact Nat.le_refl _)] at hO
      refine ⟨X, j, d, ?_, own_rdK hO, knotL_len _ _, hc.1, hc.2, bvia HB.out HB1.out⟩
      rw [← HCA.out]; rfl
end Go.Proofs.Ytdimfbmbomgiaaa
/-
  Contracts of torchonref03: crossing, crossings, Crossings.
-/
namespace Go.Proofs.Ytdimfbmbomgiaaa
open Go.RowKit
set_option maxRecDepth 100000 in
theorem cr67 (w : World) : Calls Try.prog 68 #[.int .u8 67] w (RetO [2] w) := by
  go_enter Try.func68, Try.ntmps68
  go_wp2
  go_ret
  exact ⟨some ⟨w.heap.size, 0, none⟩, 1, 1, rfl, World.ownsRow_lit w #[.int .i64 2] 1 (Nat.le_refl _) (by unfold maxLen; omega) rfl, rfl, by go_grown⟩
set_option maxRecDepth 100000 in
theorem cr84 (w : World) : Calls Try.prog 68 #[.int .u8 84] w (RetO [(-1), (-3)] w) := by
  go_enter Try.func68, Try.ntmps68
  go_wp2
  go_ret
  exact ⟨some ⟨w.heap.size, 0, none⟩, 2, 2, rfl, World.ownsRow_lit w #[.int .i64 (-1), .int .i64 (-3)] 2 (Nat.le_refl _) (by unfold maxLen; omega) rfl, rfl, by go_grown⟩
set_option maxRecDepth 100000 in
theorem cr76 (w : World) : Calls Try.prog 68 #[.int .u8 76] w (RetO [(-1)] w) := by
  go_enter Try.func68, Try.ntmps68
  go_wp2
  go_ret
  exact ⟨some ⟨w.heap.size, 0, none⟩, 1, 1, rfl, World.ownsRow_lit w #[.int .i64 (-1)] 1 (Nat.le_refl _) (by unfold maxLen; omega) rfl, rfl, by go_grown⟩
set_option maxRecDepth 100000 in
theorem cr82 (w : World) : Calls Try.prog 68 #[.int .u8 82] w (RetO [(-3)] w) := by
  go_enter Try.func68, Try.ntmps68
  go_wp2
  go_ret
  exact ⟨some ⟨w.heap.size, 0, none⟩, 1, 1, rfl, World.ownsRow_lit w #[.int .i64 (-3)] 1 (Nat.le_refl _) (by unfold maxLen; omega) rfl, rfl, by go_grown⟩
set_option maxRecDepth 100000 in
theorem cr80 (w : World) : Calls Try.prog 68 #[.int .u8 80] w (RetO [] w) := by
  go_enter Try.func68, Try.ntmps68
  go_wp2
  go_ret
  exact ⟨none, 0, 0, rfl, World.ownsRow_nil _ _ _ _, rfl, by go_grown⟩
set_option maxRecDepth 100000 in
theorem cr99 (w : World) : Calls Try.prog 68 #[.int .u8 99] w (RetO [(-2)] w) := by
  go_enter Try.func68, Try.ntmps68
  go_wp2
  go_ret
  exact ⟨some ⟨w.heap.size, 0, none⟩, 1, 1, rfl, World.ownsRow_lit w #[.int .i64 (-2)] 1 (Nat.le_refl _) (by unfold maxLen; omega) rfl, rfl, by go_grown⟩
set_option maxRecDepth 100000 in
theorem cr116 (w : World) : Calls Try.prog 68 #[.int .u8 116] w (RetO [1, 3] w) := by
  go_enter Try.func68, Try.ntmps68
  go_wp2
  go_ret
  exact ⟨some ⟨w.heap.size, 0, none⟩, 2, 2, rfl, World.ownsRow_lit w #[.int .i64 1, .int .i64 3] 2 (Nat.le_refl _) (by unfold maxLen; omega) rfl, rfl, by go_grown⟩
set_option maxRecDepth 100000 in
theorem cr108 (w : World) : Calls Try.prog 68 #[.int .u8 108] w (RetO [1] w) := by
  go_enter Try.func68, Try.ntmps68
  go_wp2
  go_ret
  exact ⟨some ⟨w.heap.size, 0, none⟩, 1, 1, rfl, World.ownsRow_lit w #[.int .i64 1] 1 (Nat.le_refl _) (by unfold maxLen; omega) rfl, rfl, by go_grown⟩
set_option maxRecDepth 100000 in
theorem cr114 (w : World) : Calls Try.prog 68 #[.int .u8 114] w (RetO [3] w) := by
  go_enter Try.func68, Try.ntmps68
  go_wp2
  go_ret
  exact ⟨some ⟨w.heap.size, 0, none⟩, 1, 1, rfl, World.ownsRow_lit w #[.int .i64 3] 1 (Nat.le_refl _) (by unfold maxLen; omega) rfl, rfl, by go_grown⟩
theorem crossing68 (c : UInt8) (h : isLet c = true) (w : World) : Calls Try.prog 68 #[.int .u8 c.toNat] w (RetO (crT (twV c) 3) w) := by
  rcases let_cases h with rfl | rfl | rfl | rfl | rfl | rfl | rfl | rfl | rfl
  · exact cr67 w
  · exact cr84 w
  · exact cr76 w
  · exact cr82 w
  · exact cr80 w
  · exact cr99 w
  · exact cr116 w
  · exact cr108 w
  · exact cr114 w
theorem crW_len3 (bs : List UInt8) : ∀ i, (crW bs i).length ≤ 3 * i
  | 0 => Nat.le_refl _
  | i + 1 => by
    have := crW_len3 bs i
    have h3 : ∀ v : List Int, (crT v 3).length ≤ 3 := fun v => by
      simp only [crT]
      repeat' split
      all_goals simp
    unfold crW
    split
    · have := h3 (twV ‹UInt8›)
      rw [List.length_append]; omega
    · omega
set_option maxRecDepth 100000 in
set_option maxHeartbeats 2000000 in
theorem crossings53 (s : ByteArray) (w : World) (hs : s.size ≤ 16) (hok : wOk s = true) :
    Calls Try.prog 56 #[.string s] w (RetO (crW s.data.toList s.size) w) := by
  have HOK : Hid (∀ (i : Nat) (hi : i < s.size), isLet s[i] = true ∧ s.data.toList[i]? = some s[i]) := fun i hi => by
    have h1 : s.data.toList[i]? = some s[i] := by
      rw [Array.getElem?_toList]
      exact Array.getElem?_eq_getElem hi
    exact ⟨(List.all_eq_true.1 hok) _ (mem_of_get h1), h1⟩
  clear hok
  go_enter Try.func56, Try.ntmps56
  go_wp2
  go_loopw [3, 4] (fun v i wr => ∃ (j l : Nat) (A' : Option Addr) (c' : Nat), j ≤ s.size ∧ l ≤ 3 * j ∧ i = .int .i64 (j : Int) ∧ v = .slice A' l c' ∧ Hid ((crW s.data.toList j).length = l) ∧ Hid (wr.ownsRow w.heap.size 3 1 v l ((crW s.data.toList j).map vInt)) ∧ Below w.heap.size w wr) (fun _ i _ => s.size - (intOf i).toNat)
  case atStart => exact ⟨0, 0, none, 0, Nat.zero_le _, Nat.le_refl _, rfl, rfl, Lib.hid rfl, Lib.hid (World.ownsRow_nil _ _ _ _), Below.refl _ _⟩
  case round =>
    obtain ⟨j, l, A', c', hj, hlj, rfl, rfl, HLL, HO, hb⟩ := hrel
    obtain ⟨wo, rfl⟩ : ∃ wo : World, wo = wr := ⟨_, rfl⟩
    have hz := hb.size
    by_cases hlt : j < s.size
    · obtain ⟨hlet, hget⟩ := HOK.out j hlt
      have T := Lib.hid (crossing68 s[j] hlet wo)
      have HS := Lib.hid (crW_succ hget)
      obtain ⟨V, hV⟩ : ∃ V, V = crT (twV s[j]) 3 := ⟨_, rfl⟩
      rw [← hV] at T HS
      clear hlet hget hV
      go_wp2_with fail
      refine T.out.mono ?_
      rintro e w2 ⟨A2, n2, c2, rfl, o2, l2, hb2⟩
      have HO2 := Lib.hid (own_below HO.out hb2)
      have HR2 := Lib.hid (own_rd1 o2)
      have B2 := hb.trans (hb2.mono hz)
      have hz2 := B2.size
      have hl3 : l + n2 ≤ 48 + 3 := by
        have h1 := crW_len3 s.data.toList (j + 1)
        rw [HS.out, List.length_append, HLL.out, l2] at h1
        omega
      have HL2 := Lib.hid l2
      have hl4 : l + n2 ≤ 3 * (j + 1) := by
        have h1 := crW_len3 s.data.toList (j + 1)
        rw [HS.out, List.length_append, HLL.out, l2] at h1
        omega
      clear hb2 T HO hb o2 l2
      go_wp2_with (first | (at_builtin; refine wpList_appI rfl (.tmp 11) (.tmp 15) rfl w.heap.size _ _ (crW s.data.toList j) rfl HO2.out A2 n2 c2 V rfl HR2.out HL2.out (by omega) (by omega) ?_; intro A3 c3 w3 hown3 hgrow3) | fail)
      have HO3 := Lib.hid hown3
      have B3 := B2.grown hgrow3 (by omega) (fun kk hk => (HO2.out.lt kk hk).1)
      clear hown3 hgrow3
      go_roundw
      case rel => exact ⟨j + 1, l + n2, A3, c3, by omega, hl4, by go_num, rfl, Lib.hid (by rw [HS.out, List.length_append, HLL.out, HL2.out]), Lib.hid (by rw [HS.out]; exact HO3.out), B3⟩
      case measure => first | (simp [intOf]; done) | (simp [intOf]; omega)
    · obtain rfl : s.size = j := by omega
      go_wp2
      go_ret
      exact ⟨A', l, c', rfl, HO.out, HLL.out, hb⟩
/-- a valid word: the own row, no error -/
theorem crossings42 (s : ByteArray) (w : World) (hs : s.size ≤ 16) (hok : wOk s = true) :
    Calls Try.prog 43 #[.string s] w fun e w' => ∃ A n c, e = .returned (.tuple #[.slice A n c, .int .i64 0]) ∧ w'.ownsRow w.heap.size 3 1 (.slice A n c) n ((crW s.data.toList s.size).map vInt) ∧ (crW s.data.toList s.size).length = n ∧ Below w.heap.size w w' := by
  have C1 := Lib.hid (check03 s w (by omega))
  rw [wchk_ok hs hok] at C1
  have C2 := Lib.hid (crossings53 s w hs hok)
  clear hok
  go_enter Try.func43, Try.ntmps43
  go_wp2_with fail
  refine C1.out.mono ?_
  rintro e w' ⟨rfl, rfl⟩
  go_wp2_with fail
  refine C2.out.mono ?_
  rintro e w2 ⟨A2, n2, c2, rfl, r2, l2, hb2⟩
  have HR := Lib.hid r2; clear r2
  go_wp2
  go_ret2
  exact ⟨A2, n2, c2, rfl, HR.out, l2, hb2⟩
set_option maxRecDepth 100000 in
set_option maxHeartbeats 1000000 in
theorem line41 (m : Nat) (w : World) (hm : m ≤ 48) : Calls Try.prog 42 #[.int .i64 (m : Int)] w (RetO (lineL m) w) := by
  go_enter Try.func42, Try.ntmps42
  go_wp2
  go_loopw [3, 4] (fun v i wr => ∃ (j : Nat) (A' : Option Addr) (c' : Nat), j ≤ m ∧ i = .int .i64 (j : Int) ∧ v = .slice A' j c' ∧ Hid (wr.ownsRow w.heap.size 3 1 v j ((lineL j).map vInt)) ∧ Below w.heap.size w wr) (fun _ i _ => m - (intOf i).toNat)
  case atStart => exact ⟨0, none, 0, Nat.zero_le _, rfl, rfl, Lib.hid (World.ownsRow_nil _ _ _ _), Below.refl _ _⟩
  case round =>
    obtain ⟨j, A', c', hj, rfl, rfl, HO, hb⟩ := hrel
    obtain ⟨wo, rfl⟩ : ∃ wo : World, wo = wr := ⟨_, rfl⟩
    have hz := hb.size
    by_cases hlt : j < m
    · have jm : (j : Int) < (m : Int) := by omega
      have HS : Hid (lineL (j + 1) = lineL j ++ [(j : Int)]) := by show lineL (j + 1) = _; simp [lineL, List.range_succ]
      go_wp2_with (first | (at_builtin; refine wpList_app rfl (.tmp 10) (.tmp 12) _ rfl w.heap.size 3 (.int .i64 0) 1 8 Try.underlying52 infoInt rfl (by omega) (by omega) _ _ _ rfl (HO.out.alloc _) wo.heap.size [vInt (j : Int)] rfl rfl (news_new _ _ _) (one_int _ _) (by omega) (by simp; omega) ?_; intro ga cap1 w7 hg1 hown1 hgrow1 hor1) | fail)
      go_roundw
      case rel => exact ⟨j + 1, some ⟨ga, 0, none⟩, cap1, by omega, by go_num, rfl, Lib.hid (by rw [HS.out, List.map_append]; exact hown1), (hb.alloc hz _).grown hgrow1 (by simp; omega) (fun kk hk => (HO.out.lt kk hk).1)⟩
      case measure => first | (simp [intOf]; done) | (simp [intOf]; omega)
    · obtain rfl : m = j := by omega
      have jm : ¬ (m : Int) < (m : Int) := by omega
      go_wp2
      go_ret
      exact ⟨A', m, c', rfl, HO.out, lineL_len _, hb⟩
end Go.Proofs.Ytdimfbmbomgiaaa
