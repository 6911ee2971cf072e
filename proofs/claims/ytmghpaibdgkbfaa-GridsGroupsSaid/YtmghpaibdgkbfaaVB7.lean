/-
  Contracts of chapter 6: half, part, cmp.Compare at int, cmp.Or.
-/
import Derived.Test.YtmghpaibdgkbfaaVB2
import Derived.Test.YtmghpaibdgkbfaaVB4
import Derived.Test.YtmghpaibdgkbfaaVB6
import Derived.Sort.Grow
namespace Go.Proofs.Ytmghpaibdgkbfaa
open Go.RowKit
def hlf (x y u v : Int) : Int := if 0 < x * v - y * u ∨ x * v - y * u = 0 ∧ 0 < x * u + y * v then 0 else 1
def prt (x y u v : Int) : Int := if 0 < x * v - y * u then 1 else if x * v - y * u < 0 then 3 else if 0 < x * u + y * v then 0 else 2
set_option maxRecDepth 100000 in
set_option maxHeartbeats 600000 in
theorem halfC (x y u v : Int) (w : World) (hx : In6 2000000 x) (hy : In6 2000000 y) (hu : In6 2000000 u) (hv : In6 2000000 v) : Calls Try.prog 61 #[vP x y, vP u v] w fun e w' => e = .returned (.int .i64 (hlf x y u v)) ∧ Below w.heap.size w w' := by
  have CC := Lib.hid (fun W => crossC x y u v W hx hy hu hv)
  have m1 := mb 2000000 2000000 4000000000000 hx hu (by decide)
  have m2 := mb 2000000 2000000 4000000000000 hy hv (by decide)
  have i1 : IntKind.i64.wrap (x * u) = x * u := IntWalk.i64_in _ (by omega)
  have i2 : IntKind.i64.wrap (y * v) = y * v := IntWalk.i64_in _ (by omega)
  have i3 : IntKind.i64.wrap (x * u + y * v) = x * u + y * v := IntWalk.i64_in _ (by omega)
  have F0 := Lib.hid (fun (W : World) (hb : Below (w.heap.size + 2) (boxW w [([.int .i64 x, .int .i64 y], 78), ([.int .i64 u, .int .i64 v], 78)]) W) => fun i d h => box_has [([.int .i64 x, .int .i64 y], 78), ([.int .i64 u, .int .i64 v], 78)] hb (i := i) (c := d) h)
  have S0 : Hid ((boxW w [([.int .i64 x, .int .i64 y], 78), ([.int .i64 u, .int .i64 v], 78)]).heap.size = w.heap.size + 2) := boxW_size [([.int .i64 x, .int .i64 y], 78), ([.int .i64 u, .int .i64 v], 78)] w
  have B0 := Lib.hid (boxW_below [([.int .i64 x, .int .i64 y], 78), ([.int .i64 u, .int .i64 v], 78)] w)
  obtain ⟨D, hD⟩ : ∃ D, D = hlf x y u v := ⟨_, rfl⟩
  rw [← hD]
  unfold hlf at hD
  obtain ⟨E, hE⟩ : ∃ E, E = x * v - y * u := ⟨_, rfl⟩
  rw [← hE] at hD CC
  clear hE
  go_enter Try.func61, Try.ntmps61
  go_wp2_with fail
  refine (CC.out _).mono ?_
  rintro e w1 ⟨rfl, hb1⟩
  have B1 := Lib.hid (bvia B0.out hb1)
  have hb1' : Below (w.heap.size + 2) (boxW w [([.int .i64 x, .int .i64 y], 78), ([.int .i64 u, .int .i64 v], 78)]) w1 := by rw [← S0.out]; exact hb1
  have g0 := F0.out w1 hb1' 0 _ rfl
  have g1 := F0.out w1 hb1' 1 _ rfl
  have x0 : w1.cell? ⟨w.heap.size, 0, none⟩ = some (.int .i64 x) := g0.cell 0
  have x1 : w1.cell? ⟨w.heap.size, 1, none⟩ = some (.int .i64 y) := g0.cell 1
  have x2 : w1.cell? ⟨w.heap.size + 1, 0, none⟩ = some (.int .i64 u) := g1.cell 0
  have x3 : w1.cell? ⟨w.heap.size + 1, 1, none⟩ = some (.int .i64 v) := g1.cell 1
  clear hb1 hb1' g0 g1 CC F0 S0
  have HD := Lib.hid hD
  clear hD
  by_cases h1 : 0 < E
  · have hz : D = 0 := HD.out.trans (if_pos (.inl h1))
    subst hz
    clear HD
    go_wp2
    go_ret
    exact ⟨rfl, B1.out⟩
  by_cases h2 : E = 0
  · by_cases h3 : 0 < x * u + y * v
    · have hz : D = 0 := HD.out.trans (if_pos (.inr ⟨h2, h3⟩))
      subst hz h2
      clear HD
      go_wp2
      go_ret
      exact ⟨rfl, B1.out⟩
    · have hz : D = 1 := HD.out.trans (if_neg (by omega))
      subst hz h2
      clear HD
      go_wp2
      go_ret
      exact ⟨rfl, B1.out⟩
  · have hz : D = 1 := HD.out.trans (if_neg (by omega))
    have e0 : (E == 0) = false := beq_eq_false_iff_ne.2 h2
    subst hz
    clear HD
    go_wp2
    go_ret
    exact ⟨rfl, B1.out⟩
set_option maxRecDepth 100000 in
set_option maxHeartbeats 600000 in
theorem partC (x y u v : Int) (w : World) (hx : In6 2000000 x) (hy : In6 2000000 y) (hu : In6 2000000 u) (hv : In6 2000000 v) : Calls Try.prog 62 #[vP x y, vP u v] w fun e w' => e = .returned (.int .i64 (prt x y u v)) ∧ Below w.heap.size w w' := by
  have CC := Lib.hid (fun W => rcrossC x y u v W hx hy hu hv)
  have m1 := mb 2000000 2000000 4000000000000 hx hu (by decide)
  have m2 := mb 2000000 2000000 4000000000000 hy hv (by decide)
  have i1 : IntKind.i64.wrap (x * u) = x * u := IntWalk.i64_in _ (by omega)
  have i2 : IntKind.i64.wrap (y * v) = y * v := IntWalk.i64_in _ (by omega)
  have i3 : IntKind.i64.wrap (x * u + y * v) = x * u + y * v := IntWalk.i64_in _ (by omega)
  have F0 := Lib.hid (fun (W : World) (hb : Below (w.heap.size + 2) (boxW w [cP x y, cP u v]) W) => fun i d h => box_has [cP x y, cP u v] hb (i := i) (c := d) h)
  have S0 : Hid ((boxW w [cP x y, cP u v]).heap.size = w.heap.size + 2) := boxW_size [cP x y, cP u v] w
  have B0 := Lib.hid (boxW_below [cP x y, cP u v] w)
  obtain ⟨D, hD⟩ : ∃ D, D = prt x y u v := ⟨_, rfl⟩
  rw [← hD]
  unfold prt at hD
  obtain ⟨E, hE⟩ : ∃ E, E = x * v - y * u := ⟨_, rfl⟩
  rw [← hE] at hD CC
  clear hE
  go_enter Try.func62, Try.ntmps62
  go_wp2_with fail
  refine (CC.out _).mono ?_
  rintro e w1 ⟨rfl, hb1⟩
  have B1 := Lib.hid (bvia B0.out hb1)
  have hb1' : Below (w.heap.size + 2) (boxW w [cP x y, cP u v]) w1 := by rw [← S0.out]; exact hb1
  have g0 := F0.out w1 hb1' 0 _ rfl
  have g1 := F0.out w1 hb1' 1 _ rfl
  have x0 : w1.cell? ⟨w.heap.size, 0, none⟩ = some (.int .i64 x) := g0.cell 0
  have x1 : w1.cell? ⟨w.heap.size, 1, none⟩ = some (.int .i64 y) := g0.cell 1
  have x2 : w1.cell? ⟨w.heap.size + 1, 0, none⟩ = some (.int .i64 u) := g1.cell 0
  have x3 : w1.cell? ⟨w.heap.size + 1, 1, none⟩ = some (.int .i64 v) := g1.cell 1
  clear hb1 hb1' g0 g1 CC F0 S0
  have HD := Lib.hid hD
  clear hD
  by_cases h1 : 0 < E
  · have hz : D = 1 := HD.out.trans (if_pos h1)
    subst hz
    clear HD
    go_wp2
    go_ret
    exact ⟨rfl, B1.out⟩
  by_cases h2 : E < 0
  · have hz : D = 3 := HD.out.trans (by rw [if_neg h1, if_pos h2])
    subst hz
    clear HD
    go_wp2
    go_ret
    exact ⟨rfl, B1.out⟩
  by_cases h3 : 0 < x * u + y * v
  · have hz : D = 0 := HD.out.trans (by rw [if_neg h1, if_neg h2, if_pos h3])
    subst hz
    clear HD
    go_wp2
    go_ret
    exact ⟨rfl, B1.out⟩
  · have hz : D = 2 := HD.out.trans (by rw [if_neg h1, if_neg h2, if_neg h3])
    subst hz
    clear HD
    go_wp2
    go_ret
    exact ⟨rfl, B1.out⟩
set_option maxHeartbeats 400000 in
theorem nanI (n : Int) (w : World) : Calls Try.prog 87 #[.int .i64 n] w fun e w' => e = .returned (.bool false) ∧ w = w' := by
  go_enter Try.func87, Try.ntmps87
  go_wp2
  go_ret
  exact ⟨by simp, rfl⟩
set_option maxRecDepth 100000 in
set_option maxHeartbeats 400000 in
theorem compareI (a b : Int) (w : World) : Calls Try.prog 60 #[.int .i64 a, .int .i64 b] w fun e w' => e = .returned (.int .i64 (cmpI a b)) ∧ w = w' := by
  have CA := Lib.hid (fun W => nanI a W)
  have CB := Lib.hid (fun W => nanI b W)
  unfold cmpI
  by_cases h1 : a < b
  · rw [if_pos h1]
    go_enter Try.func60, Try.ntmps60
    go_wp2_with fail
    refine (CA.out _).mono ?_
    rintro e w1 ⟨rfl, rfl⟩
    go_wp2_with fail
    refine (CB.out _).mono ?_
    rintro e w1 ⟨rfl, rfl⟩
    go_wp2
    go_ret
    exact ⟨rfl, rfl⟩
  · rw [if_neg h1]
    by_cases h2 : b < a
    · rw [if_pos h2]
      go_enter Try.func60, Try.ntmps60
      go_wp2_with fail
      refine (CA.out _).mono ?_
      rintro e w1 ⟨rfl, rfl⟩
      go_wp2_with fail
      refine (CB.out _).mono ?_
      rintro e w1 ⟨rfl, rfl⟩
      go_wp2
      go_ret
      exact ⟨rfl, rfl⟩
    · rw [if_neg h2]
      go_enter Try.func60, Try.ntmps60
      go_wp2_with fail
      refine (CA.out _).mono ?_
      rintro e w1 ⟨rfl, rfl⟩
      go_wp2_with fail
      refine (CB.out _).mono ?_
      rintro e w1 ⟨rfl, rfl⟩
      go_wp2
      go_ret
      exact ⟨rfl, rfl⟩
/-- the first number that is not 0 -/
def orL : List Int → Int
  | [] => 0
  | x :: l => if x ≠ 0 then x else orL l
theorem orL_drop : ∀ {l : List Int} {k : Nat} {x : Int}, l[k]? = some x → orL (l.drop k) = if x ≠ 0 then x else orL (l.drop (k + 1)) := fun {l k x} h => by
  obtain ⟨hl, e⟩ := List.getElem?_eq_some_iff.1 h
  rw [List.drop_eq_getElem_cons hl, e]
  rfl
set_option maxRecDepth 100000 in
set_option maxHeartbeats 600000 in
theorem orC (A : Option Addr) (n c : Nat) (l : List Int) (w : World) (hr : RdI w w.heap.size A l) (hl : l.length = n) (hn : n ≤ 1000) :
    Calls Try.prog 59 #[.slice A n c] w fun e w' => e = .returned (.int .i64 (orL l)) ∧ Below w.heap.size w w' := by
  have HR := Lib.hid hr
  have HL := Lib.hid hl
  clear hr hl
  go_enter Try.func59, Try.ntmps59
  go_wp2
  go_loopw [8] (fun i wr => ∃ (k : Nat), k ≤ n ∧ i = .int .i64 (k : Int) ∧ Hid (orL l = orL (l.drop k)) ∧ Hid (w = wr)) (fun i _ => n - (intOf i).toNat)
  case atStart => exact ⟨0, Nat.zero_le _, rfl, rfl, rfl⟩
  case round =>
    obtain ⟨k, hk, rfl, HK, HB⟩ := hrel
    obtain rfl : w = wr := HB.out
    clear HB
    by_cases hlt : k < n
    · have jk : (k : Int) < (n : Int) := by omega
      obtain ⟨x, hx⟩ := get_of_lt (l := l) (k := k) (by rw [HL.out]; exact hlt)
      obtain ⟨b, o, rfl, hb, c0⟩ := HR.out k x hx
      have HT := Lib.hid (orL_drop hx)
      clear hx
      by_cases hx0 : x = 0
      · have HK2 : Hid (orL l = orL (l.drop (k + 1))) := by
          rw [HK.out, HT.out, if_neg (by simpa using hx0)]
          exact rfl
        subst hx0
        clear HT
        go_wp2
        refine ⟨⟨k + 1, by omega, by go_num, HK2, (by first | exact trivial | exact rfl)⟩, ?_⟩
        first | (simp [intOf]; done) | (simp [intOf]; omega)
      · have HK2 : Hid (orL l = x) := by
          rw [HK.out, HT.out, if_pos hx0]
          exact rfl
        have jx : (x != 0) = true := by simpa using hx0
        clear HT hx0
        go_wp2
        go_ret
        exact ⟨by rw [HK2.out]; rfl, Below.refl _ _⟩
    · obtain rfl : k = n := by omega
      have jk : ¬ (k : Int) < (k : Int) := by omega
      have HE : Hid (orL l = 0) := by
        rw [HK.out, ← HL.out, List.drop_length]
        exact rfl
      go_wp2
      go_ret
      exact ⟨by rw [HE.out]; rfl, Below.refl _ _⟩
end Go.Proofs.Ytmghpaibdgkbfaa
/-
  Contracts of chapter 6: Turn, the program's.
-/
namespace Go.Proofs.Ytmghpaibdgkbfaa
open Go.RowKit
def sameP (x y u v : Int) : Bool := x == u && y == v
def turnV (ox oy fx fy px py qx qy : Int) : Int := orL [cmpI (hlf (fx - ox) (fy - oy) (px - ox) (py - oy)) (hlf (fx - ox) (fy - oy) (qx - ox) (qy - oy)), cmpI 0 ((px - ox) * (qy - oy) - (py - oy) * (qx - ox))]
def turnOk (ox oy fx fy px py qx qy : Int) : Bool := okPs [(ox, oy), (fx, fy), (px, py), (qx, qy)] && (!sameP fx fy ox oy && (!sameP px py ox oy && !sameP qx qy ox oy))
def turnR (ox oy fx fy px py qx qy : Int) : Int × Int := if turnOk ox oy fx fy px py qx qy = true then (turnV ox oy fx fy px py qx qy, 0) else (0, 2)
theorem eqPt (x y u v : Int) (w : World) : (Op.equalIn 10000 25 (vP x y) (vP u v)).run Try.prog w = .ok (sameP x y u v) w := by
  have u3 := Try.underlying2
  have a3 := Try.isAgg2
  have z3 := Try.sizeOf2
  have hS : Try.prog.underlying 25 = some (.struct (Try.prog.fieldsOf 25)) := by kernel_rfl
  have hp : Try.prog.stoodInHeld 25 = false := by kernel_rfl
  rw [show (10000 : Nat) = 9999 + 1 from rfl, run_equalIn_agg w 9999 25 _ _ hS hp]
  simp only [Program.fieldsOf, Try.underlying25]
  unfold sameP
  by_cases h1 : x = u
  · by_cases h2 : y = v
    · subst h1 h2
      go_simp
    · subst h1
      have : (y == v) = false := beq_eq_false_iff_ne.2 h2
      go_simp
  · have : (x == u) = false := beq_eq_false_iff_ne.2 h1
    go_simp
theorem rdI_two (w : World) (a b : Int) (t : TypeId) : RdI (w.alloc (.cells #[.int .i64 a, .int .i64 b] t)) (w.alloc (.cells #[.int .i64 a, .int .i64 b] t)).heap.size (some ⟨w.heap.size, 0, none⟩) [a, b] := fun k x hx => by
  refine ⟨w.heap.size, 0, rfl, by simp, ?_⟩
  rw [World.cell?_alloc_new]
  match k, hx with
  | 0, hx => simp at hx; subst hx; rfl
  | 1, hx => simp at hx; subst hx; rfl
  | k + 2, hx => simp at hx
set_option maxRecDepth 100000 in
set_option maxHeartbeats 1000000 in
theorem turnC (ox oy fx fy px py qx qy : Int) (w : World) : Calls Try.prog 22 #[vP ox oy, vP fx fy, vP px py, vP qx qy] w fun e w' => e = .returned (.tuple #[.int .i64 (turnR ox oy fx fy px py qx qy).1, .int .i64 (turnR ox oy fx fy px py qx qy).2]) ∧ Below w.heap.size w w' := by
  obtain ⟨D, hD⟩ : ∃ D, D = turnR ox oy fx fy px py qx qy := ⟨_, rfl⟩
  rw [← hD]
  have HD := Lib.hid hD
  clear hD
  have F0 := Lib.hid (fun (W : World) (hb : Below (w.heap.size + 4) (boxW w [cP ox oy, cP fx fy, cP px py, cP qx qy]) W) => fun i d h => box_has [cP ox oy, cP fx fy, cP px py, cP qx qy] hb (i := i) (c := d) h)
  have S0 : Hid ((boxW w [cP ox oy, cP fx fy, cP px py, cP qx qy]).heap.size = w.heap.size + 4) := boxW_size [cP ox oy, cP fx fy, cP px py, cP qx qy] w
  have B0 := Lib.hid (boxW_below [cP ox oy, cP fx fy, cP px py, cP qx qy] w)
  have CP := Lib.hid (pointC (some ⟨(boxW w [cP ox oy, cP fx fy, cP px py, cP qx qy]).heap.size, 0, none⟩) 4 4 [(ox, oy), (fx, fy), (px, py), (qx, qy)] ((boxW w [cP ox oy, cP fx fy, cP px py, cP qx qy]).alloc (.cells #[.int .i64 ox, .int .i64 oy, .int .i64 fx, .int .i64 fy, .int .i64 px, .int .i64 py, .int .i64 qx, .int .i64 qy] 25)) (rdP_new [(ox, oy), (fx, fy), (px, py), (qx, qy)]) rfl (by decide))
  rw [S0.out] at CP
  cases hP : okPs [(ox, oy), (fx, fy), (px, py), (qx, qy)] with
  | false =>
    rw [hP] at CP
    have hD2 : D = (0, 2) := HD.out.trans (if_neg (fun h => by unfold turnOk at h; rw [hP, Bool.false_and] at h; cases h))
    subst hD2
    clear hP HD
    go_enter Try.func22, Try.ntmps22
    go_wp2_with fail
    refine CP.out.mono ?_
    rintro e w2 ⟨rfl, hb2⟩
    go_wp2
    go_ret2
    exact ⟨rfl, bvia B0.out (bvia ((Below.refl _ (boxW w [cP ox oy, cP fx fy, cP px py, cP qx qy])).alloc (Nat.le_refl _) _) hb2)⟩
  | true =>
    rw [hP] at CP
    go_enter Try.func22, Try.ntmps22
    go_wp2_with fail
    refine CP.out.mono ?_
    rintro e w2 ⟨rfl, hb2⟩
    have hb3 := bvia ((Below.refl _ (boxW w [cP ox oy, cP fx fy, cP px py, cP qx qy])).alloc (Nat.le_refl _) (.cells #[.int .i64 ox, .int .i64 oy, .int .i64 fx, .int .i64 fy, .int .i64 px, .int .i64 py, .int .i64 qx, .int .i64 qy] 25)) hb2
    have B2 := Lib.hid (bvia B0.out hb3)
    rw [S0.out] at hb3
    have g0 := F0.out w2 hb3 0 _ rfl
    have g1 := F0.out w2 hb3 1 _ rfl
    have g2 := F0.out w2 hb3 2 _ rfl
    have g3 := F0.out w2 hb3 3 _ rfl
    have x0 : w2.cell? ⟨w.heap.size, 0, none⟩ = some (.int .i64 ox) := g0.cell 0
    have x1 : w2.cell? ⟨w.heap.size, 1, none⟩ = some (.int .i64 oy) := g0.cell 1
    have x2 : w2.cell? ⟨w.heap.size + 1, 0, none⟩ = some (.int .i64 fx) := g1.cell 0
    have x3 : w2.cell? ⟨w.heap.size + 1, 1, none⟩ = some (.int .i64 fy) := g1.cell 1
    have x4 : w2.cell? ⟨w.heap.size + 1 + 1, 0, none⟩ = some (.int .i64 px) := g2.cell 0
    have x5 : w2.cell? ⟨w.heap.size + 1 + 1, 1, none⟩ = some (.int .i64 py) := g2.cell 1
    have x6 : w2.cell? ⟨w.heap.size + 1 + 1 + 1, 0, none⟩ = some (.int .i64 qx) := g3.cell 0
    have x7 : w2.cell? ⟨w.heap.size + 1 + 1 + 1, 1, none⟩ = some (.int .i64 qy) := g3.cell 1
    have q0 : w.heap.size < w2.heap.size := g0.lt
    have q1 : w.heap.size + 1 < w2.heap.size := g1.lt
    have q2 : w.heap.size + 1 + 1 < w2.heap.size := g2.lt
    have q3 : w.heap.size + 1 + 1 + 1 < w2.heap.size := g3.lt
    clear hb2 hb3 CP S0
    have hq := fun x y u v W => eqPt x y u v W
    cases e1 : sameP fx fy ox oy with
    | true =>
      have hD2 : D = (0, 2) := HD.out.trans (if_neg (fun h => by unfold turnOk at h; rw [hP, e1] at h; simp at h))
      subst hD2
      clear HD
      go_wp2
      go_ret2
      exact ⟨rfl, B2.out⟩
    | false =>
    cases e2 : sameP px py ox oy with
    | true =>
      have hD2 : D = (0, 2) := HD.out.trans (if_neg (fun h => by unfold turnOk at h; rw [hP, e1, e2] at h; simp at h))
      subst hD2
      clear HD
      go_wp2
      go_ret2
      exact ⟨rfl, B2.out⟩
    | false =>
    cases e3 : sameP qx qy ox oy with
    | true =>
      have hD2 : D = (0, 2) := HD.out.trans (if_neg (fun h => by unfold turnOk at h; rw [hP, e1, e2, e3] at h; simp at h))
      subst hD2
      clear HD
      go_wp2
      go_ret2
      exact ⟨rfl, B2.out⟩
    | false =>
    have hD2 : D = (turnV ox oy fx fy px py qx qy, 0) := HD.out.trans (if_pos (by unfold turnOk; rw [hP, e1, e2, e3]; rfl))
    subst hD2
    obtain ⟨V, hV⟩ : ∃ V, V = turnV ox oy fx fy px py qx qy := ⟨_, rfl⟩
    have HV := Lib.hid hV
    clear hV
    have o1 := okPs_all hP (x := (ox, oy)) (by simp)
    have o2 := okPs_all hP (x := (fx, fy)) (by simp)
    have o3 := okPs_all hP (x := (px, py)) (by simp)
    have o4 := okPs_all hP (x := (qx, qy)) (by simp)
    simp only at o1 o2 o3 o4
    have C1 := Lib.hid (fun W => toC ox oy fx fy W o1.1 o1.2 o2.1 o2.2)
    have C2 := Lib.hid (fun W => toC ox oy px py W o1.1 o1.2 o3.1 o3.2)
    have C3 := Lib.hid (fun W => toC ox oy qx qy W o1.1 o1.2 o4.1 o4.2)
    have FF : Hid (∀ W, Below w2.heap.size w2 W → W.cell? ⟨w.heap.size, 0, none⟩ = some (.int .i64 ox) ∧ W.cell? ⟨w.heap.size, 1, none⟩ = some (.int .i64 oy) ∧ W.cell? ⟨w.heap.size + 1, 0, none⟩ = some (.int .i64 fx) ∧ W.cell? ⟨w.heap.size + 1, 1, none⟩ = some (.int .i64 fy) ∧ W.cell? ⟨w.heap.size + 1 + 1, 0, none⟩ = some (.int .i64 px) ∧ W.cell? ⟨w.heap.size + 1 + 1, 1, none⟩ = some (.int .i64 py) ∧ W.cell? ⟨w.heap.size + 1 + 1 + 1, 0, none⟩ = some (.int .i64 qx) ∧ W.cell? ⟨w.heap.size + 1 + 1 + 1, 1, none⟩ = some (.int .i64 qy)) := fun W hb => ⟨(hb.cell (p := ⟨w.heap.size, 0, none⟩) q0).trans x0, (hb.cell (p := ⟨w.heap.size, 1, none⟩) q0).trans x1, (hb.cell (p := ⟨w.heap.size + 1, 0, none⟩) q1).trans x2, (hb.cell (p := ⟨w.heap.size + 1, 1, none⟩) q1).trans x3, (hb.cell (p := ⟨w.heap.size + 1 + 1, 0, none⟩) q2).trans x4, (hb.cell (p := ⟨w.heap.size + 1 + 1, 1, none⟩) q2).trans x5, (hb.cell (p := ⟨w.heap.size + 1 + 1 + 1, 0, none⟩) q3).trans x6, (hb.cell (p := ⟨w.heap.size + 1 + 1 + 1, 1, none⟩) q3).trans x7⟩
    have BD : Hid (Below w2.heap.size w2 w2.drew) := ⟨rfl, rfl, rfl, Nat.le_refl _, fun _ _ => rfl⟩
    go_wp2
    refine wp_region_news [.q, .q, .q, .q, .q, .q, .q, .q, .q, .mk 0, .mk 1, .mk 2, .st 0, .st 1, .st 2]
      [⟨10, 37, none, 78, [.int .i64 0, .int .i64 0], [.int .i64 (fx - ox), .int .i64 (fy - oy)], vP (fx - ox) (fy - oy)⟩, ⟨11, 40, none, 78, [.int .i64 0, .int .i64 0], [.int .i64 (px - ox), .int .i64 (py - oy)], vP (px - ox) (py - oy)⟩, ⟨12, 43, none, 78, [.int .i64 0, .int .i64 0], [.int .i64 (qx - ox), .int .i64 (qy - oy)], vP (qx - ox) (qy - oy)⟩] ?aH (by kernel_rfl) (by kernel_rfl) (by simp) (by simp) ?hq ?hv ?hA ?he
    case hq =>
      intro w3 h3
      obtain ⟨x0, x1, x2, x3, x4, x5, x6, x7⟩ := FF.out w3 h3
      have q0 := Nat.lt_of_lt_of_le q0 h3.size
      have q1 := Nat.lt_of_lt_of_le q1 h3.size
      have q2 := Nat.lt_of_lt_of_le q2 h3.size
      have q3 := Nat.lt_of_lt_of_le q3 h3.size
      have hxc := fun (x : Ext w3) => x.cell
      show wpQuiet _ _ _ _ [_, _, _, _, _, _, _, _, _] _
      repeat (go_big_quiet_step ((first | (go_at_call_of 50 (Value.agg #[Value.int .i64 fx, Value.int .i64 fy]); exact ext_call (C1.out _)) | (go_at_call_of 50 (Value.agg #[Value.int .i64 px, Value.int .i64 py]); exact ext_call (C2.out _)) | (go_at_call_of 50 (Value.agg #[Value.int .i64 qx, Value.int .i64 qy]); exact ext_call (C3.out _)))))
      refine wpQuiet_nil ?_
      rfl
    case hv => simp
    case hA =>
      refine ⟨fun x hx => ?_, fun x hx => ?_, fun x hx => ?_, fun x hx => ?_, fun x hx => ?_, fun x hx => ?_, trivial⟩ <;> (obtain rfl := Option.some.inj hx)
      · exact fun b W => by go_simp
      · exact fun b W => by go_simp
      · exact fun b W => by go_simp
      · exact stOk_agg rfl rfl (by kernel_rfl) rfl (by kernel_rfl)
      · exact stOk_agg rfl rfl (by kernel_rfl) rfl (by kernel_rfl)
      · exact stOk_agg rfl rfl (by kernel_rfl) rfl (by kernel_rfl)
    case he =>
      intro bs w3 hb3 hH hne
      obtain ⟨A, hA⟩ : ∃ A, A = bs 0 := ⟨_, rfl⟩
      obtain ⟨B, hBB⟩ : ∃ B, B = bs 1 := ⟨_, rfl⟩
      obtain ⟨C, hC⟩ : ∃ C, C = bs 2 := ⟨_, rfl⟩
      have G0 := hH 0 _ rfl
      have G1 := hH 1 _ rfl
      have G2 := hH 2 _ rfl
      have n01 := hne 0 1 (by simp) (by simp) (by simp)
      have n02 := hne 0 2 (by simp) (by simp) (by simp)
      have n12 := hne 1 2 (by simp) (by simp) (by simp)
      clear hH hne
      simp only [putN, Nat.zero_add, ← hA, ← hBB, ← hC, Act.put, List.setIfInBounds_toArray, List.set_cons_zero, List.set_cons_succ] at G0 G1 G2 n01 n02 n12 ⊢
      clear hA hBB hC
      have BB := Lib.hid (bvia B2.out hb3)
      have D1 := Lib.hid (fun W => halfC (fx - ox) (fy - oy) (px - ox) (py - oy) W ⟨by omega, by omega⟩ ⟨by omega, by omega⟩ ⟨by omega, by omega⟩ ⟨by omega, by omega⟩)
      have D2 := Lib.hid (fun W => halfC (fx - ox) (fy - oy) (qx - ox) (qy - oy) W ⟨by omega, by omega⟩ ⟨by omega, by omega⟩ ⟨by omega, by omega⟩ ⟨by omega, by omega⟩)
      have D3 := Lib.hid (fun W => crossC (px - ox) (py - oy) (qx - ox) (qy - oy) W ⟨by omega, by omega⟩ ⟨by omega, by omega⟩ ⟨by omega, by omega⟩ ⟨by omega, by omega⟩)
      have HV2 : Hid (V = orL [cmpI (hlf (fx - ox) (fy - oy) (px - ox) (py - oy)) (hlf (fx - ox) (fy - oy) (qx - ox) (qy - oy)), cmpI 0 ((px - ox) * (qy - oy) - (py - oy) * (qx - ox))]) := HV.out
      have p0 : w3.cell? ⟨A, 0, none⟩ = some (.int .i64 (fx - ox)) := G0.1.cell 0
      have p1 : w3.cell? ⟨A, 1, none⟩ = some (.int .i64 (fy - oy)) := G0.1.cell 1
      have p2 : w3.cell? ⟨B, 0, none⟩ = some (.int .i64 (px - ox)) := G1.1.cell 0
      have p3 : w3.cell? ⟨B, 1, none⟩ = some (.int .i64 (py - oy)) := G1.1.cell 1
      have p4 : w3.cell? ⟨C, 0, none⟩ = some (.int .i64 (qx - ox)) := G2.1.cell 0
      have p5 : w3.cell? ⟨C, 1, none⟩ = some (.int .i64 (qy - oy)) := G2.1.cell 1
      have z0 := G0.1.lt
      have z1 := G1.1.lt
      have z2 := G2.1.lt
      clear HD G0 G1 G2 n01 n02 n12 FF BD C1 C2 C3 B2 B0 F0 x0 x1 x2 x3 x4 x5 x6 x7 q0 q1 q2 q3 hq e1 e2 e3 hP hb3
      generalize fx - ox = ax, fy - oy = ay, px - ox = bx, py - oy = by_, qx - ox = cx, qy - oy = cy at *
      clear o1 o2 o3 o4
      have FF : Hid (∀ W, Below w3.heap.size w3 W → W.cell? ⟨A, 0, none⟩ = some (.int .i64 ax) ∧ W.cell? ⟨A, 1, none⟩ = some (.int .i64 ay) ∧ W.cell? ⟨B, 0, none⟩ = some (.int .i64 bx) ∧ W.cell? ⟨B, 1, none⟩ = some (.int .i64 by_) ∧ W.cell? ⟨C, 0, none⟩ = some (.int .i64 cx) ∧ W.cell? ⟨C, 1, none⟩ = some (.int .i64 cy)) := fun W hb => ⟨(hb.cell (p := ⟨A, 0, none⟩) z0).trans p0, (hb.cell (p := ⟨A, 1, none⟩) z0).trans p1, (hb.cell (p := ⟨B, 0, none⟩) z1).trans p2, (hb.cell (p := ⟨B, 1, none⟩) z1).trans p3, (hb.cell (p := ⟨C, 0, none⟩) z2).trans p4, (hb.cell (p := ⟨C, 1, none⟩) z2).trans p5⟩
      have BD : Hid (Below w3.heap.size w3 w3.drew) := ⟨rfl, rfl, rfl, Nat.le_refl _, fun _ _ => rfl⟩
      go_wp2
      go_region_held3 (fun W => W.cell? ⟨A, 0, none⟩ = some (.int .i64 ax) ∧ W.cell? ⟨A, 1, none⟩ = some (.int .i64 ay) ∧ W.cell? ⟨B, 0, none⟩ = some (.int .i64 bx) ∧ W.cell? ⟨B, 1, none⟩ = some (.int .i64 by_) ∧ W.cell? ⟨C, 0, none⟩ = some (.int .i64 cx) ∧ W.cell? ⟨C, 1, none⟩ = some (.int .i64 cy)) (first | exact FF.out _ BD.out | exact FF.out _ (by assumption) | go_keep) (first
        | (go_simp; go_at_call_of 61 (Value.agg #[Value.int .i64 bx, Value.int .i64 by_]); refine (D1.out _).mono ?_; rintro e w4 ⟨rfl, hb4⟩; have b4 := bvia BD.out hb4)
        | (go_simp; go_at_call_of 61 (Value.agg #[Value.int .i64 cx, Value.int .i64 cy]); refine (D2.out _).mono ?_; rintro e w5 ⟨rfl, hb5⟩; have b5 := bvia b4 hb5)
        | (go_at_call 60; refine (compareI _ _ _).mono ?_; rintro e w6 ⟨rfl, rfl⟩)
        | (go_simp; go_at_call 56; refine (D3.out _).mono ?_; rintro e w7 ⟨rfl, hb7⟩; have b7 := bvia b5 hb7)
        | (go_at_call 55; refine (compare64 _ _ _).mono ?_; rintro e w8 ⟨rfl, rfl⟩)
        | (go_at_call 59; refine (orC _ 2 2 [cmpI (hlf ax ay bx by_) (hlf ax ay cx cy), cmpI 0 (bx * cy - by_ * cx)] _ (rdI_two _ _ _ _) rfl (by decide)).mono ?_; rintro e w9 ⟨rfl, hb9⟩; have b9 := bvia b7 (bvia ((Below.refl _ _).alloc (Nat.le_refl _) _) hb9))
        | fail)
      rw [← HV2.out]
      go_wp2
      go_ret2
      refine ⟨?_, bvia BB.out b9⟩
      show Ending.returned (.tuple #[.int .i64 V, .int .i64 0]) = .returned (.tuple #[.int .i64 (turnV ox oy fx fy px py qx qy), .int .i64 0])
      rw [HV.out]
end Go.Proofs.Ytmghpaibdgkbfaa
/-
  Contracts of chapter 6: the order of matrices.
-/
namespace Go.Proofs.Ytmghpaibdgkbfaa
open Go.RowKit
def ordI (m n : La.Mat) : Int := orL [cmpI m.a n.a, cmpI m.b n.b, cmpI m.c n.c, cmpI m.d n.d]
theorem rdI_four (w : World) (a b c d : Int) (t : TypeId) : RdI (w.alloc (.cells #[.int .i64 a, .int .i64 b, .int .i64 c, .int .i64 d] t)) (w.alloc (.cells #[.int .i64 a, .int .i64 b, .int .i64 c, .int .i64 d] t)).heap.size (some ⟨w.heap.size, 0, none⟩) [a, b, c, d] := fun k x hx => by
  refine ⟨w.heap.size, 0, rfl, by simp, ?_⟩
  rw [World.cell?_alloc_new]
  match k, hx with
  | 0, hx => simp at hx; subst hx; rfl
  | 1, hx => simp at hx; subst hx; rfl
  | 2, hx => simp at hx; subst hx; rfl
  | 3, hx => simp at hx; subst hx; rfl
  | k + 4, hx => simp at hx
set_option maxRecDepth 100000 in
set_option maxHeartbeats 600000 in
theorem orS (A : Option Addr) (n c : Nat) (l : List Int) (w : World) (hr : RdI w w.heap.size A l) (hl : l.length = n) (hn : n ≤ 1000) :
    Calls Try.prog 59 #[.slice A n c] w fun e w' => e = .returned (.int .i64 (orL l)) ∧ w = w' := by
  have HR := Lib.hid hr
  have HL := Lib.hid hl
  clear hr hl
  go_enter Try.func59, Try.ntmps59
  go_wp2
  go_loopw [8] (fun i wr => ∃ (k : Nat), k ≤ n ∧ i = .int .i64 (k : Int) ∧ Hid (orL l = orL (l.drop k)) ∧ Hid (w = wr)) (fun i _ => n - (intOf i).toNat)
  case atStart => exact ⟨0, Nat.zero_le _, rfl, rfl, rfl⟩
  case round =>
    obtain ⟨k, hk, rfl, HK, HB⟩ := hrel
    obtain rfl : w = wr := HB.out
    clear HB
    by_cases hlt : k < n
    · have jk : (k : Int) < (n : Int) := by omega
      obtain ⟨x, hx⟩ := get_of_lt (l := l) (k := k) (by rw [HL.out]; exact hlt)
      obtain ⟨b, o, rfl, hb, c0⟩ := HR.out k x hx
      have HT := Lib.hid (orL_drop hx)
      clear hx
      by_cases hx0 : x = 0
      · have HK2 : Hid (orL l = orL (l.drop (k + 1))) := by
          rw [HK.out, HT.out, if_neg (by simpa using hx0)]
          exact rfl
        subst hx0
        clear HT
        go_wp2
        refine ⟨⟨k + 1, by omega, by go_num, HK2, (by first | exact trivial | exact rfl)⟩, ?_⟩
        first | (simp [intOf]; done) | (simp [intOf]; omega)
      · have HK2 : Hid (orL l = x) := by
          rw [HK.out, HT.out, if_pos hx0]
          exact rfl
        have jx : (x != 0) = true := by simpa using hx0
        clear HT hx0
        go_wp2
        go_ret
        exact ⟨by rw [HK2.out]; rfl, rfl⟩
    · obtain rfl : k = n := by omega
      have jk : ¬ (k : Int) < (k : Int) := by omega
      have HE : Hid (orL l = 0) := by
        rw [HK.out, ← HL.out, List.drop_length]
        exact rfl
      go_wp2
      go_ret
      exact ⟨by rw [HE.out]; rfl, rfl⟩
set_option maxRecDepth 100000 in
set_option maxHeartbeats 2000000 in
theorem orderMS (m n : La.Mat) (w : World) : Calls Try.prog 67 #[vM m.a m.b m.c m.d, vM n.a n.b n.c n.d] w fun e w' => e = .returned (.int .i64 (ordI m n)) ∧ ∃ q os, w' = Go.Sort.grow (w.drewN q) os := by
  obtain ⟨a, b, c, d⟩ := m
  obtain ⟨p, q, r, s⟩ := n
  show Calls _ _ #[vM a b c d, vM p q r s] w fun e w' => e = .returned (.int .i64 (orL [cmpI a p, cmpI b q, cmpI c r, cmpI d s])) ∧ ∃ q os, w' = Go.Sort.grow (w.drewN q) os
  have G0 : Hid (Has (boxW w [([.int .i64 a, .int .i64 b, .int .i64 c, .int .i64 d], 40), ([.int .i64 p, .int .i64 q, .int .i64 r, .int .i64 s], 40)]) w.heap.size 40 [.int .i64 a, .int .i64 b, .int .i64 c, .int .i64 d]) := box_has [([.int .i64 a, .int .i64 b, .int .i64 c, .int .i64 d], 40), ([.int .i64 p, .int .i64 q, .int .i64 r, .int .i64 s], 40)] (w := w) (Below.refl _ _) (i := 0) rfl
  have G1 : Hid (Has (boxW w [([.int .i64 a, .int .i64 b, .int .i64 c, .int .i64 d], 40), ([.int .i64 p, .int .i64 q, .int .i64 r, .int .i64 s], 40)]) (w.heap.size + 1) 40 [.int .i64 p, .int .i64 q, .int .i64 r, .int .i64 s]) := box_has [([.int .i64 a, .int .i64 b, .int .i64 c, .int .i64 d], 40), ([.int .i64 p, .int .i64 q, .int .i64 r, .int .i64 s], 40)] (w := w) (Below.refl _ _) (i := 1) rfl
  have B0 := Lib.hid (boxW_below [([.int .i64 a, .int .i64 b, .int .i64 c, .int .i64 d], 40), ([.int .i64 p, .int .i64 q, .int .i64 r, .int .i64 s], 40)] w)
  obtain ⟨W1, hW1⟩ : ∃ W1, W1 = boxW w [([.int .i64 a, .int .i64 b, .int .i64 c, .int .i64 d], 40), ([.int .i64 p, .int .i64 q, .int .i64 r, .int .i64 s], 40)] := ⟨_, rfl⟩
  rw [← hW1] at G0 G1 B0
  go_enter Try.func67, Try.ntmps67
  go_wp2
  rw [show (w.alloc (.cells #[.int .i64 a, .int .i64 b, .int .i64 c, .int .i64 d] 40)).alloc (.cells #[.int .i64 p, .int .i64 q, .int .i64 r, .int .i64 s] 40) = W1 from hW1.symm]
  have HW1 := Lib.hid hW1
  clear hW1
  have FF : Hid (∀ W, Below W1.heap.size W1 W → W.cell? ⟨w.heap.size, 0, none⟩ = some (.int .i64 a) ∧ W.cell? ⟨w.heap.size, 1, none⟩ = some (.int .i64 b) ∧ W.cell? ⟨w.heap.size, 2, none⟩ = some (.int .i64 c) ∧ W.cell? ⟨w.heap.size, 3, none⟩ = some (.int .i64 d) ∧ W.cell? ⟨w.heap.size + 1, 0, none⟩ = some (.int .i64 p) ∧ W.cell? ⟨w.heap.size + 1, 1, none⟩ = some (.int .i64 q) ∧ W.cell? ⟨w.heap.size + 1, 2, none⟩ = some (.int .i64 r) ∧ W.cell? ⟨w.heap.size + 1, 3, none⟩ = some (.int .i64 s)) := fun W hb => ⟨(G0.out.below hb G0.out.lt).cell 0, (G0.out.below hb G0.out.lt).cell 1, (G0.out.below hb G0.out.lt).cell 2, (G0.out.below hb G0.out.lt).cell 3, (G1.out.below hb G1.out.lt).cell 0, (G1.out.below hb G1.out.lt).cell 1, (G1.out.below hb G1.out.lt).cell 2, (G1.out.below hb G1.out.lt).cell 3⟩
  have BD : Hid (Below W1.heap.size W1 W1.drew) := ⟨rfl, rfl, rfl, Nat.le_refl _, fun _ _ => rfl⟩
  have CO : Hid (Calls Try.prog 59 #[.slice (some ⟨W1.heap.size, 0, none⟩) 4 4] (W1.alloc (.cells #[.int .i64 (cmpI a p), .int .i64 (cmpI b q), .int .i64 (cmpI c r), .int .i64 (cmpI d s)] 3)).drew fun e w' => e = .returned (.int .i64 (orL [cmpI a p, cmpI b q, cmpI c r, cmpI d s])) ∧ (W1.alloc (.cells #[.int .i64 (cmpI a p), .int .i64 (cmpI b q), .int .i64 (cmpI c r), .int .i64 (cmpI d s)] 3)).drew = w') := by
    have h1 := rdI_four W1 (cmpI a p) (cmpI b q) (cmpI c r) (cmpI d s) 3
    exact orS _ 4 4 [cmpI a p, cmpI b q, cmpI c r, cmpI d s] (W1.alloc (.cells #[.int .i64 (cmpI a p), .int .i64 (cmpI b q), .int .i64 (cmpI c r), .int .i64 (cmpI d s)] 3)).drew h1 rfl (by decide)
  go_region_held3 (fun W => W.cell? ⟨w.heap.size, 0, none⟩ = some (.int .i64 a) ∧ W.cell? ⟨w.heap.size, 1, none⟩ = some (.int .i64 b) ∧ W.cell? ⟨w.heap.size, 2, none⟩ = some (.int .i64 c) ∧ W.cell? ⟨w.heap.size, 3, none⟩ = some (.int .i64 d) ∧ W.cell? ⟨w.heap.size + 1, 0, none⟩ = some (.int .i64 p) ∧ W.cell? ⟨w.heap.size + 1, 1, none⟩ = some (.int .i64 q) ∧ W.cell? ⟨w.heap.size + 1, 2, none⟩ = some (.int .i64 r) ∧ W.cell? ⟨w.heap.size + 1, 3, none⟩ = some (.int .i64 s)) (first | exact FF.out _ BD.out | exact FF.out _ (by assumption) | exact FF.out _ (Below.drew (Below.alloc (Below.refl _ _) (Nat.le_refl _) _)) | go_keep) (first
    | (go_at_call 55; refine (compare64 _ _ _).mono ?_; rintro e w8 ⟨rfl, rfl⟩)
    | (go_at_call 59; refine CO.out.mono ?_; rintro e w9 ⟨rfl, b9⟩; have d9 : Below W1.heap.size W1 w9 := b9 ▸ (Below.drew (Below.alloc (Below.refl _ _) (Nat.le_refl _) _)))
    | fail)
  go_wp2
  go_ret
  refine ⟨rfl, 1, #[.cells #[.int .i64 a, .int .i64 b, .int .i64 c, .int .i64 d] 40, .cells #[.int .i64 p, .int .i64 q, .int .i64 r, .int .i64 s] 40, .cells #[.int .i64 (cmpI a p), .int .i64 (cmpI b q), .int .i64 (cmpI c r), .int .i64 (cmpI d s)] 3], ?_⟩
  rw [← b9, HW1.out]
  show (((World.alloc _ _).alloc _).alloc _).drew = _
  rw [Go.Sort.alloc_eq_grow, Go.Sort.alloc_eq_grow, Go.Sort.alloc_eq_grow, Go.Sort.grow_grow, Go.Sort.grow_grow]
  rfl
theorem grow_below {w w' : World} (h : ∃ q os, w' = Go.Sort.grow (w.drewN q) os) : Below w.heap.size w w' := by
  obtain ⟨q, os, rfl⟩ := h
  refine ⟨rfl, rfl, rfl, ?_, fun k hk => ?_⟩
  · show w.heap.size ≤ (w.heap ++ os).size
    rw [Array.size_append]; omega
  · show (w.heap ++ os)[k]? = _
    rw [Array.getElem?_append_left hk]
theorem orderMC (m n : La.Mat) (w : World) : Calls Try.prog 67 #[vM m.a m.b m.c m.d, vM n.a n.b n.c n.d] w fun e w' => e = .returned (.int .i64 (ordI m n)) ∧ Below w.heap.size w w' :=
  (orderMS m n w).mono fun _ _ h => ⟨h.1, grow_below h.2⟩
end Go.Proofs.Ytmghpaibdgkbfaa
/-
  Contracts of chapter 6: the least of a list of matrices.
-/
namespace Go.Proofs.Ytmghpaibdgkbfaa
open Go.RowKit
/-- the slice address A reads, in world w and below block B, as these matrices -/
def RdM4 (w : World) (B : Nat) (A : Option Addr) (ms : List La.Mat) : Prop :=
  ∀ (k : Nat) (m : La.Mat), ms[k]? = some m → ∃ b o, A = some ⟨b, o, none⟩ ∧ b < B ∧ w.cell? ⟨b, o + k * 4, none⟩ = some (.int .i64 m.a) ∧ w.cell? ⟨b, o + k * 4 + 1, none⟩ = some (.int .i64 m.b) ∧ w.cell? ⟨b, o + k * 4 + 2, none⟩ = some (.int .i64 m.c) ∧ w.cell? ⟨b, o + k * 4 + 3, none⟩ = some (.int .i64 m.d)
theorem RdM4.up {w w' : World} {A : Option Addr} {l : List La.Mat} (h : RdM4 w w.heap.size A l) (hb : Below w.heap.size w w') : RdM4 w' w'.heap.size A l := fun k x hx => by
  obtain ⟨b, o, h1, h2, h3, h4, h5, h6⟩ := h k x hx
  exact ⟨b, o, h1, Nat.lt_of_lt_of_le h2 hb.size, (hb.cell (p := ⟨b, _, none⟩) h2).trans h3, (hb.cell (p := ⟨b, _, none⟩) h2).trans h4, (hb.cell (p := ⟨b, _, none⟩) h2).trans h5, (hb.cell (p := ⟨b, _, none⟩) h2).trans h6⟩
def lst (m : La.Mat) (l : List La.Mat) : La.Mat := l.foldl (fun m x => if ordI x m < 0 then x else m) m
def lstTo (l : List La.Mat) (k : Nat) : La.Mat := match l with | [] => La.one | m :: r => lst m (r.take k)
theorem lstTo_succ {l : List La.Mat} {k : Nat} {x : La.Mat} (h : l[k + 1]? = some x) : lstTo l (k + 1) = if ordI x (lstTo l k) < 0 then x else lstTo l k := by
  cases l with
  | nil => simp at h
  | cons m r =>
    have h : r[k]? = some x := by simpa using h
    unfold lstTo lst
    simp only [List.take_add_one, h, Option.toList_some, List.foldl_append, List.foldl_cons, List.foldl_nil]
set_option maxRecDepth 100000 in
set_option maxHeartbeats 2000000 in
theorem minC (A : Option Addr) (n cp : Nat) (l : List La.Mat) (w : World) (hr : RdM4 w w.heap.size A l) (hl : l.length = n) (hn : n ≤ 1000) (hn0 : 0 < n) :
    Calls Try.prog 66 #[.slice A n cp, .func (.func 67) #[] #[]] w fun e w' => e = .returned (vM (lstTo l (n - 1)).a (lstTo l (n - 1)).b (lstTo l (n - 1)).c (lstTo l (n - 1)).d) ∧ Below w.heap.size w w' := by
  have HR := Lib.hid hr
  have HL := Lib.hid hl
  obtain ⟨m0, hm0⟩ := get_of_lt (l := l) (k := 0) (by omega)
  obtain ⟨b, o, rfl, hb, x0, x1, x2, x3⟩ := hr 0 m0 hm0
  have HM0 : Hid (lstTo l 0 = m0) := by
    show _ = _
    cases l with
    | nil => simp at hm0
    | cons a r => simp at hm0; subst hm0; rfl
  have G0 : Hid (Has (boxW w [([.int .i64 0, .int .i64 0, .int .i64 0, .int .i64 0], 40), (mC m0, 40)]) w.heap.size 40 [.int .i64 0, .int .i64 0, .int .i64 0, .int .i64 0]) := box_has [([.int .i64 0, .int .i64 0, .int .i64 0, .int .i64 0], 40), (mC m0, 40)] (w := w) (Below.refl _ _) (i := 0) rfl
  have G1 : Hid (Has (boxW w [([.int .i64 0, .int .i64 0, .int .i64 0, .int .i64 0], 40), (mC m0, 40)]) (w.heap.size + 1) 40 (mC m0)) := box_has [([.int .i64 0, .int .i64 0, .int .i64 0, .int .i64 0], 40), (mC m0, 40)] (w := w) (Below.refl _ _) (i := 1) rfl
  have B0 := Lib.hid (boxW_below [([.int .i64 0, .int .i64 0, .int .i64 0, .int .i64 0], 40), (mC m0, 40)] w)
  obtain ⟨W1, hW1⟩ : ∃ W1, W1 = boxW w [([.int .i64 0, .int .i64 0, .int .i64 0, .int .i64 0], 40), (mC m0, 40)] := ⟨_, rfl⟩
  rw [← hW1] at G0 G1 B0
  have e0 : o + 0 * 4 = o := by omega
  rw [e0] at x0 x1 x2 x3
  have jn : ¬ (n : Int) < 1 := by omega
  have jn0 : (0 : Int) < (n : Int) := by omega
  clear hr hl e0 hm0
  go_enter Try.func66, Try.ntmps66
  go_wp2
  rw [show (w.alloc (.cells #[.int .i64 0, .int .i64 0, .int .i64 0, .int .i64 0] 40)).alloc (.cells #[.int .i64 m0.a, .int .i64 m0.b, .int .i64 m0.c, .int .i64 m0.d] 40) = W1 from hW1.symm]
  clear hW1 x0 x1 x2 x3
  go_loopw [6] (fun i wr => ∃ (k : Nat) (p q r s : Int), k < n ∧ i = .int .i64 ((k : Int) + 1) ∧ Hid (lstTo l k = ⟨p, q, r, s⟩) ∧ Hid (Has wr (w.heap.size + 1) 40 [.int .i64 p, .int .i64 q, .int .i64 r, .int .i64 s]) ∧ Hid (Has wr w.heap.size 40 [.int .i64 0, .int .i64 0, .int .i64 0, .int .i64 0]) ∧ Hid (Below w.heap.size w wr)) (fun i _ => n - (intOf i).toNat)
  case atStart => exact ⟨0, m0.a, m0.b, m0.c, m0.d, hn0, rfl, HM0, G1, G0, B0⟩
  case round =>
    clear G0 G1 B0 HM0
    obtain ⟨k, p, q, r, s, hk, rfl, HS, G1, G0, HB⟩ := hrel
    obtain ⟨wo, rfl⟩ : ∃ wo : World, wo = wr := ⟨_, rfl⟩
    by_cases hlt : k + 1 < n
    · have jk : (k : Int) + 1 < (n : Int) := by omega
      have ik : IntKind.i64.wrap ((k : Int) + 1 + 1) = (k : Int) + 1 + 1 := IntWalk.i64_in _ (by omega)
      obtain ⟨x, hx⟩ := get_of_lt (l := l) (k := k + 1) (by rw [HL.out]; exact hlt)
      have HN := Lib.hid (lstTo_succ hx)
      obtain ⟨b', o', hA, hb', x0, x1, x2, x3⟩ := HR.out (k + 1) x hx
      obtain ⟨rfl, rfl⟩ : b' = b ∧ o' = o := by injection hA with hA; injection hA with h1 h2; exact ⟨h1.symm, h2.symm⟩
      clear hA hb' hx
      obtain ⟨xa, xb, xc, xd⟩ := x
      simp only at x0 x1 x2 x3
      have CO := Lib.hid (fun W => orderMC ⟨xa, xb, xc, xd⟩ ⟨p, q, r, s⟩ W)
      rw [HS.out] at HN
      have ea : o' + (k + 1) * 4 = o' + 4 * (k + 1) := by omega
      have y0 : wo.cell? ⟨b', o' + (k + 1) * 4, none⟩ = some (.int .i64 xa) := (HB.out.cell (p := ⟨b', _, none⟩) hb).trans x0
      have y1 : wo.cell? ⟨b', o' + (k + 1) * 4 + 1, none⟩ = some (.int .i64 xb) := (HB.out.cell (p := ⟨b', _, none⟩) hb).trans x1
      have y2 : wo.cell? ⟨b', o' + (k + 1) * 4 + 2, none⟩ = some (.int .i64 xc) := (HB.out.cell (p := ⟨b', _, none⟩) hb).trans x2
      have y3 : wo.cell? ⟨b', o' + (k + 1) * 4 + 3, none⟩ = some (.int .i64 xd) := (HB.out.cell (p := ⟨b', _, none⟩) hb).trans x3
      have z0 : wo.cell? ⟨w.heap.size + 1, 0, none⟩ = some (.int .i64 p) := G1.out.cell 0
      have z1 : wo.cell? ⟨w.heap.size + 1, 1, none⟩ = some (.int .i64 q) := G1.out.cell 1
      have z2 : wo.cell? ⟨w.heap.size + 1, 2, none⟩ = some (.int .i64 r) := G1.out.cell 2
      have z3 : wo.cell? ⟨w.heap.size + 1, 3, none⟩ = some (.int .i64 s) := G1.out.cell 3
      have q0 : b' < wo.heap.size := Nat.lt_of_lt_of_le hb HB.out.size
      have q1 := G1.out.lt
      clear x0 x1 x2 x3 ea HS
      generalize ordI ⟨xa, xb, xc, xd⟩ ⟨p, q, r, s⟩ = D at *
      go_upto_region 7 with (fail)
      have hxc := fun (x : Ext wo) => x.cell
      refine wp_region_ext (by kernel_rfl) (by kernel_rfl) ?_
      repeat (go_big_quiet_step ((go_at_call 67; exact ext_call (CO.out _))))
      refine wpQuiet_nil ?_
      intro w3 hw'
      have hb3 := ext_below hw'
      clear hw' hxc
      have G3 := Lib.hid (G1.out.below hb3 G1.out.lt)
      have G4 := Lib.hid (G0.out.below hb3 G0.out.lt)
      have B3 := Lib.hid (bvia HB.out hb3)
      have y0 : w3.cell? ⟨b', o' + (k + 1) * 4, none⟩ = some (.int .i64 xa) := (hb3.cell (p := ⟨b', _, none⟩) q0).trans y0
      have y1 : w3.cell? ⟨b', o' + (k + 1) * 4 + 1, none⟩ = some (.int .i64 xb) := (hb3.cell (p := ⟨b', _, none⟩) q0).trans y1
      have y2 : w3.cell? ⟨b', o' + (k + 1) * 4 + 2, none⟩ = some (.int .i64 xc) := (hb3.cell (p := ⟨b', _, none⟩) q0).trans y2
      have y3 : w3.cell? ⟨b', o' + (k + 1) * 4 + 3, none⟩ = some (.int .i64 xd) := (hb3.cell (p := ⟨b', _, none⟩) q0).trans y3
      have z0 : w3.cell? ⟨w.heap.size + 1, 0, none⟩ = some (.int .i64 p) := G3.out.cell 0
      have z1 : w3.cell? ⟨w.heap.size + 1, 1, none⟩ = some (.int .i64 q) := G3.out.cell 1
      have z2 : w3.cell? ⟨w.heap.size + 1, 2, none⟩ = some (.int .i64 r) := G3.out.cell 2
      have z3 : w3.cell? ⟨w.heap.size + 1, 3, none⟩ = some (.int .i64 s) := G3.out.cell 3
      have f0 : w3.frozen? ⟨w.heap.size + 1, 0, none⟩ = false := G3.out.free 0
      have f1 : w3.frozen? ⟨w.heap.size + 1, 1, none⟩ = false := G3.out.free 1
      have f2 : w3.frozen? ⟨w.heap.size + 1, 2, none⟩ = false := G3.out.free 2
      have f3 : w3.frozen? ⟨w.heap.size + 1, 3, none⟩ = false := G3.out.free 3
      have q0 := Nat.lt_of_lt_of_le q0 hb3.size
      have hbn : b' ≠ w.heap.size + 1 := by omega
      clear hb3 G0 G1 HB
      by_cases hd : D < 0
      · have HN2 : Hid (lstTo l (k + 1) = ⟨xa, xb, xc, xd⟩) := HN.out.trans (if_pos hd)
        clear HN
        go_wp2
        refine ⟨⟨k + 1, xa, xb, xc, xd, hlt, by rw [Int.natCast_add]; rfl, HN2, Lib.hid ((((G3.out.set 0 _).set 1 _).set 2 _).set 3 _), Lib.hid ((((G4.out.far (by omega) 0 _).far (by omega) 1 _).far (by omega) 2 _).far (by omega) 3 _), Lib.hid ((((B3.out.setCell (p := ⟨w.heap.size + 1, 0, none⟩) (Nat.le_succ _) _).setCell (p := ⟨w.heap.size + 1, 1, none⟩) (Nat.le_succ _) _).setCell (p := ⟨w.heap.size + 1, 2, none⟩) (Nat.le_succ _) _).setCell (p := ⟨w.heap.size + 1, 3, none⟩) (Nat.le_succ _) _)⟩, ?_⟩
        first | (simp [intOf]; done) | (simp [intOf]; omega)
      · have HN2 : Hid (lstTo l (k + 1) = ⟨p, q, r, s⟩) := HN.out.trans (if_neg hd)
        clear HN
        go_wp2
        refine ⟨⟨k + 1, p, q, r, s, hlt, by rw [Int.natCast_add]; rfl, HN2, G3, G4, B3⟩, ?_⟩
        first | (simp [intOf]; done) | (simp [intOf]; omega)
    · obtain rfl : k + 1 = n := by omega
      have jk : ¬ (k : Int) + 1 < ((k + 1 : Nat) : Int) := by omega
      have z0 : wo.cell? ⟨w.heap.size + 1, 0, none⟩ = some (.int .i64 p) := G1.out.cell 0
      have z1 : wo.cell? ⟨w.heap.size + 1, 1, none⟩ = some (.int .i64 q) := G1.out.cell 1
      have z2 : wo.cell? ⟨w.heap.size + 1, 2, none⟩ = some (.int .i64 r) := G1.out.cell 2
      have z3 : wo.cell? ⟨w.heap.size + 1, 3, none⟩ = some (.int .i64 s) := G1.out.cell 3
      have u0 : wo.cell? ⟨w.heap.size, 0, none⟩ = some (.int .i64 0) := G0.out.cell 0
      have u1 : wo.cell? ⟨w.heap.size, 1, none⟩ = some (.int .i64 0) := G0.out.cell 1
      have u2 : wo.cell? ⟨w.heap.size, 2, none⟩ = some (.int .i64 0) := G0.out.cell 2
      have u3 : wo.cell? ⟨w.heap.size, 3, none⟩ = some (.int .i64 0) := G0.out.cell 3
      have f0 : wo.frozen? ⟨w.heap.size, 0, none⟩ = false := G0.out.free 0
      have f1 : wo.frozen? ⟨w.heap.size, 1, none⟩ = false := G0.out.free 1
      have f2 : wo.frozen? ⟨w.heap.size, 2, none⟩ = false := G0.out.free 2
      have f3 : wo.frozen? ⟨w.heap.size, 3, none⟩ = false := G0.out.free 3
      go_wp2
      refine post_cell ((((G0.out.set 0 _).set 1 _).set 2 _).set 3 _) Try.results66 rfl rfl Try.underlying40 (by kernel_rfl) ⟨?_, ?_⟩
      · rw [HS.out]; rfl
      · exact (((HB.out.setCell (p := ⟨w.heap.size, 0, none⟩) (Nat.le_refl _) _).setCell (p := ⟨w.heap.size, 1, none⟩) (Nat.le_refl _) _).setCell (p := ⟨w.heap.size, 2, none⟩) (Nat.le_refl _) _).setCell (p := ⟨w.heap.size, 3, none⟩) (Nat.le_refl _) _
end Go.Proofs.Ytmghpaibdgkbfaa
/-
  Lists of matrices in memory, whose elements are replaced one after the other.
-/
namespace Go.Proofs.Ytmghpaibdgkbfaa
open Go.RowKit
def stL (f : La.Mat → La.Mat) (l : List La.Mat) (i : Nat) : List La.Mat := (l.take i).map f ++ l.drop i
theorem stL_zero (f : La.Mat → La.Mat) (l : List La.Mat) : stL f l 0 = l := by unfold stL; simp
theorem stL_all {f : La.Mat → La.Mat} {l : List La.Mat} {i : Nat} (h : l.length ≤ i) : stL f l i = l.map f := by unfold stL; rw [List.take_of_length_le h, List.drop_eq_nil_of_le h, List.append_nil]
theorem stL_len (f : La.Mat → La.Mat) (l : List La.Mat) (i : Nat) : (stL f l i).length = l.length := by unfold stL; simp; omega
theorem stL_split {f : La.Mat → La.Mat} {l : List La.Mat} {i : Nat} {x : La.Mat} (h : l[i]? = some x) : stL f l i = (l.take i).map f ++ [x] ++ l.drop (i + 1) := by
  unfold stL
  have hi := lt_of_get h
  rw [List.drop_eq_getElem_cons hi]
  have : l[i] = x := by rw [List.getElem?_eq_getElem hi] at h; exact Option.some.inj h
  rw [this, List.append_assoc]; rfl
theorem stL_next {f : La.Mat → La.Mat} {l : List La.Mat} {i : Nat} {x : La.Mat} (h : l[i]? = some x) : stL f l (i + 1) = (l.take i).map f ++ [f x] ++ l.drop (i + 1) := by
  unfold stL
  rw [List.take_add_one, h, List.map_append]; rfl
theorem mC_len (m : La.Mat) : (mC m).length = 4 := rfl
theorem put_mid {α : Type} (X M M' Y : List α) (n m : Nat) (hX : X.length = n) (hM : M.length = m) : (X ++ M ++ Y).take n ++ M' ++ (X ++ M ++ Y).drop (n + m) = X ++ M' ++ Y := by
  subst hX hM
  rw [show X.length + M.length = (X ++ M).length by simp, List.drop_left, List.append_assoc X M Y, List.take_left]
theorem stL_set {f : La.Mat → La.Mat} {l : List La.Mat} {i : Nat} {x : La.Mat} (h : l[i]? = some x) (T : List Value) : (msC (stL f l i) ++ T).take (i * 4) ++ mC (f x) ++ (msC (stL f l i) ++ T).drop (i * 4 + (mC (f x)).length) = msC (stL f l (i + 1)) ++ T := by
  have hi := lt_of_get h
  have hl : (msC ((l.take i).map f)).length = i * 4 := by rw [msC_len, List.length_map, List.length_take]; omega
  have e := put_mid (msC ((l.take i).map f)) (mC x) (mC (f x)) (msC (l.drop (i + 1)) ++ T) (i * 4) (mC (f x)).length hl rfl
  rw [stL_split h, stL_next h, msC_app, msC_app, msC_app, msC_app, msC_one, msC_one, List.append_assoc _ _ T, e, List.append_assoc _ _ T]
theorem msC_get : ∀ {l : List La.Mat} {k : Nat} {m : La.Mat}, l[k]? = some m → ∀ (T : List Value) (j : Nat), j < 4 → (msC l ++ T)[k * 4 + j]? = (mC m)[j]?
  | [], k, m, h, _, _, _ => by simp at h
  | a :: l, 0, m, h, T, j, hj => by
    obtain rfl : a = m := by simpa using h
    show (mC a ++ msC l ++ T)[0 * 4 + j]? = _
    rw [Nat.zero_mul, Nat.zero_add, List.append_assoc, List.getElem?_append_left (by rw [mC_len]; exact hj)]
  | a :: l, k + 1, m, h, T, j, hj => by
    show (mC a ++ msC l ++ T)[(k + 1) * 4 + j]? = _
    rw [List.append_assoc, List.getElem?_append_right (by rw [mC_len]; omega), mC_len, show (k + 1) * 4 + j - 4 = k * 4 + j by omega]
    exact msC_get (by simpa using h) T j hj
theorem rd_has {w : World} {g : Nat} {t : TypeId} {ms : List La.Mat} {T : List Value} (h : Has w g t (msC ms ++ T)) : RdM4 w w.heap.size (some ⟨g, 0, none⟩) ms := fun k m hk => by
  refine ⟨g, 0, rfl, h.lt, ?_, ?_, ?_, ?_⟩
  · rw [h.cell, Nat.zero_add, show k * 4 = k * 4 + 0 from rfl, msC_get hk T 0 (by decide)]; rfl
  · rw [h.cell, Nat.zero_add, msC_get hk T 1 (by decide)]; rfl
  · rw [h.cell, Nat.zero_add, msC_get hk T 2 (by decide)]; rfl
  · rw [h.cell, Nat.zero_add, msC_get hk T 3 (by decide)]; rfl
theorem own_has {w : World} {base : Nat} {e : TypeId} {A : Option Addr} {n cp : Nat} {xs : List Value} (h : w.ownsRow base e 4 (.slice A n cp) n xs) (hn : 0 < n) : ∃ (g : Nat) (T : List Value), A = some ⟨g, 0, none⟩ ∧ base ≤ g ∧ Has w g e (xs ++ T) ∧ n ≤ cp := by
  rcases h.2 with ⟨_, h0⟩ | ⟨g, cap, cur, hv, hb, hc, h1, h2, h3, h4⟩
  · omega
  · injection hv with h5 h6 h7
    refine ⟨g, cur.toList.drop (n * 4), h5, hb, ?_, by omega⟩
    show w.heap[g]? = _
    rw [← h4, List.take_append_drop, Array.toArray_toList]
    exact hc
theorem grp_mem {l : La.Lat} {x : La.Mat} (h : x ∈ grp l 81) : ((-1 ≤ x.a ∧ x.a ≤ 1) ∧ (-1 ≤ x.b ∧ x.b ≤ 1) ∧ (-1 ≤ x.c ∧ x.c ≤ 1) ∧ (-1 ≤ x.d ∧ x.d ≤ 1)) ∧ La.lead l x = l := by
  unfold grp at h
  rw [List.mem_filter, List.mem_map] at h
  obtain ⟨⟨i, hi, rfl⟩, h2⟩ := h
  rw [List.mem_range] at hi
  refine ⟨⟨?_, ?_, ?_, ?_⟩, by simpa using h2⟩
  · show -1 ≤ (i : Int) % 3 - 1 ∧ (i : Int) % 3 - 1 ≤ 1; omega
  · show -1 ≤ (i : Int) / 3 % 3 - 1 ∧ (i : Int) / 3 % 3 - 1 ≤ 1; omega
  · show -1 ≤ (i : Int) / 9 % 3 - 1 ∧ (i : Int) / 9 % 3 - 1 ≤ 1; omega
  · show -1 ≤ (i : Int) / 27 - 1 ∧ (i : Int) / 27 - 1 ≤ 1; omega
theorem cand_all {x : La.Mat} (h : (-1 ≤ x.a ∧ x.a ≤ 1) ∧ (-1 ≤ x.b ∧ x.b ≤ 1) ∧ (-1 ≤ x.c ∧ x.c ≤ 1) ∧ (-1 ≤ x.d ∧ x.d ≤ 1)) : ∃ i, i < 81 ∧ cand i = x := by
  obtain ⟨a, b, c, d⟩ := x
  simp only at h
  refine ⟨((a + 1) + 3 * (b + 1) + 9 * (c + 1) + 27 * (d + 1)).toNat, by omega, ?_⟩
  unfold cand
  simp only [La.Mat.mk.injEq]
  refine ⟨by omega, by omega, by omega, by omega⟩
theorem grp_iff {l : La.Lat} {x : La.Mat} : x ∈ grp l 81 ↔ ((-1 ≤ x.a ∧ x.a ≤ 1) ∧ (-1 ≤ x.b ∧ x.b ≤ 1) ∧ (-1 ≤ x.c ∧ x.c ≤ 1) ∧ (-1 ≤ x.d ∧ x.d ≤ 1)) ∧ La.lead l x = l := by
  refine ⟨grp_mem, fun ⟨h1, h2⟩ => ?_⟩
  obtain ⟨i, hi, rfl⟩ := cand_all h1
  unfold grp
  rw [List.mem_filter, List.mem_map]
  exact ⟨⟨i, List.mem_range.2 hi, rfl⟩, by simpa using h2⟩
theorem grp_pos (l : La.Lat) : 0 < (grp l 81).length := List.length_pos_of_mem (grp_iff.2 ⟨by decide, La.lead_one l⟩)
/-- what the loops over a group hold -/
structure RedI (w : World) (g Bl Bm : Nat) (cs : List Value) (l : La.Lat) (m : La.Mat) (W : World) : Prop where
  own : Has W g 40 cs
  lat : Has W Bl 23 [.int .i64 l.a, .int .i64 l.b, .int .i64 l.c]
  mat : Has W Bm 40 (mC m)
  below : Below w.heap.size w W
theorem RedI.next {w : World} {g Bl Bm : Nat} {cs : List Value} {l : La.Lat} {m : La.Mat} {W W' : World} (h : RedI w g Bl Bm cs l m W) (hb : Below W.heap.size W W') : RedI w g Bl Bm cs l m W' :=
  ⟨h.own.below hb h.own.lt, h.lat.below hb h.lat.lt, h.mat.below hb h.mat.lt, bvia h.below hb⟩
theorem RedI.put {w : World} {g Bl Bm : Nat} {cs ds : List Value} {l : La.Lat} {m : La.Mat} {W W' : World} (h : RedI w g Bl Bm cs l m W) (hb : But g W W') (ho : Has W' g 40 ds) (hg : w.heap.size ≤ g) (h1 : Bl ≠ g) (h2 : Bm ≠ g) : RedI w g Bl Bm ds l m W' :=
  ⟨ho, hb.has h.lat h1, hb.has h.mat h2, h.below.trans (hb.below hg h.below.size)⟩
end Go.Proofs.Ytmghpaibdgkbfaa
