/-
  Contracts of chapter 6: lists of points.
-/
import Derived.Test.YtmghpaibdgkbfaaVB1
namespace Go.Proofs.Ytmghpaibdgkbfaa
open Go.RowKit
def RdP (w : World) (B : Nat) (A : Option Addr) (l : List (Int × Int)) : Prop :=
  ∀ (k : Nat) (x : Int × Int), l[k]? = some x → ∃ b o, A = some ⟨b, o, none⟩ ∧ b < B ∧ w.cell? ⟨b, o + k * 2, none⟩ = some (.int .i64 x.1) ∧ w.cell? ⟨b, o + k * 2 + 1, none⟩ = some (.int .i64 x.2)
theorem RdP.up {w w' : World} {A : Option Addr} {l : List (Int × Int)} (h : RdP w w.heap.size A l) (hb : Below w.heap.size w w') : RdP w' w'.heap.size A l := fun k x hx => by
  obtain ⟨b, o, e, h1, h2, h3⟩ := h k x hx
  exact ⟨b, o, e, Nat.lt_of_lt_of_le h1 hb.size, (hb.cell (p := ⟨b, o + k * 2, none⟩) h1).trans h2, (hb.cell (p := ⟨b, o + k * 2 + 1, none⟩) h1).trans h3⟩
def okP (x y : Int) : Bool := (decide (-1000000 ≤ x) && decide (x ≤ 1000000)) && (decide (-1000000 ≤ y) && decide (y ≤ 1000000))
theorem okP_iff (x y : Int) : okP x y = true ↔ (-1000000 ≤ x ∧ x ≤ 1000000) ∧ (-1000000 ≤ y ∧ y ≤ 1000000) := by unfold okP; simp
theorem okP_out (x y : Int) : ((decide (x < -1000000) || decide (1000000 < x)) || (decide (y < -1000000) || decide (1000000 < y))) = !okP x y := by
  cases h : okP x y with
  | true =>
    have := (okP_iff x y).1 h
    rw [decide_eq_false (by omega), decide_eq_false (by omega), decide_eq_false (by omega), decide_eq_false (by omega)]; rfl
  | false =>
    have hn : ¬ ((-1000000 ≤ x ∧ x ≤ 1000000) ∧ (-1000000 ≤ y ∧ y ≤ 1000000)) := fun q => by rw [(okP_iff x y).2 q] at h; cases h
    by_cases a1 : x < -1000000
    · rw [decide_eq_true a1]; rfl
    by_cases a2 : 1000000 < x
    · rw [decide_eq_true a2, Bool.or_true]; rfl
    by_cases a3 : y < -1000000
    · rw [decide_eq_true a3, Bool.true_or, Bool.or_true]; rfl
    rw [decide_eq_true (show 1000000 < y by omega), Bool.or_true, Bool.or_true]; rfl
set_option maxRecDepth 100000 in
set_option maxHeartbeats 400000 in
theorem outP (x y : Int) (w : World) : Calls Try.prog 85 #[vP x y] w fun e w' => e = .returned (.bool (!okP x y)) ∧ Below w.heap.size w w' := by
  have CX := Lib.hid (fun W => outC x 1000000 W (by omega))
  have CY := Lib.hid (fun W => outC y 1000000 W (by omega))
  have hk := okP_out x y
  cases hx : (decide (x < -1000000) || decide (1000000 < x)) with
  | true =>
    rw [hx, Bool.true_or] at hk
    rw [hx] at CX
    rw [← hk]
    clear hk hx
    go_enter Try.func85, Try.ntmps85
    go_wp2_with fail
    refine (CX.out _).mono ?_
    rintro e w1 ⟨rfl, rfl⟩
    go_wp2
    go_ret
    exact ⟨rfl, by go_grown⟩
  | false =>
    rw [hx, Bool.false_or] at hk
    rw [hx] at CX
    rw [hk] at CY
    clear hk hx
    generalize (!okP x y) = r at *
    go_enter Try.func85, Try.ntmps85
    go_wp2_with fail
    refine (CX.out _).mono ?_
    rintro e w1 ⟨rfl, rfl⟩
    go_wp2_with fail
    refine (CY.out _).mono ?_
    rintro e w1 ⟨rfl, rfl⟩
    go_wp2
    go_ret
    exact ⟨rfl, by go_grown⟩
set_option maxRecDepth 100000 in
set_option maxHeartbeats 400000 in
theorem refP (x y : Int) (w : World) : Calls Try.prog 78 #[vP x y] w fun e w' => e = .returned (.bool (okP x y)) ∧ Below w.heap.size w w' := by
  have CX := Lib.hid (fun W => fromC x (-1000000) 1000000 W)
  have CY := Lib.hid (fun W => fromC y (-1000000) 1000000 W)
  unfold okP
  cases hx : (decide (-1000000 ≤ x) && decide (x ≤ 1000000)) with
  | true =>
    rw [hx] at CX
    rw [Bool.true_and]
    generalize (decide (-1000000 ≤ y) && decide (y ≤ 1000000)) = r at *
    clear hx
    go_enter Try.func78, Try.ntmps78
    go_wp2_with fail
    refine (CX.out _).mono ?_
    rintro e w1 ⟨rfl, rfl⟩
    go_wp2_with fail
    refine (CY.out _).mono ?_
    rintro e w1 ⟨rfl, rfl⟩
    go_wp2
    go_ret
    exact ⟨rfl, by go_grown⟩
  | false =>
    rw [hx] at CX
    rw [Bool.false_and]
    clear hx
    go_enter Try.func78, Try.ntmps78
    go_wp2_with fail
    refine (CX.out _).mono ?_
    rintro e w1 ⟨rfl, rfl⟩
    go_wp2
    go_ret
    exact ⟨rfl, by go_grown⟩
def okPs (l : List (Int × Int)) : Bool := l.all (fun x => okP x.1 x.2)
theorem okPs_take {l : List (Int × Int)} {k : Nat} {x : Int × Int} (h : l[k]? = some x) : okPs (l.take (k + 1)) = (okPs (l.take k) && okP x.1 x.2) := by
  unfold okPs
  rw [List.take_add_one, h, List.all_append]
  simp
theorem okPs_no {l : List (Int × Int)} {k : Nat} {x : Int × Int} (h : l[k]? = some x) (hx : okP x.1 x.2 = false) : okPs l = false := by
  unfold okPs
  rw [List.all_eq_false]
  exact ⟨x, mem_of_get h, by rw [hx]; decide⟩
set_option maxRecDepth 100000 in
set_option maxHeartbeats 1000000 in
theorem refPs (A : Option Addr) (n c : Nat) (l : List (Int × Int)) (w : World) (hr : RdP w w.heap.size A l) (hl : l.length = n) (hn : n ≤ 1000) :
    Calls Try.prog 46 #[.slice A n c] w fun e w' => e = .returned (.bool (okPs l)) ∧ Below w.heap.size w w' := by
  have HR := Lib.hid hr
  have HL := Lib.hid hl
  clear hr hl
  go_enter Try.func46, Try.ntmps46
  go_wp2
  go_loopw [3] (fun i wr => ∃ (k : Nat), k ≤ n ∧ i = .int .i64 (k : Int) ∧ Hid (okPs (l.take k) = true) ∧ Hid (Below w.heap.size w wr)) (fun i _ => n - (intOf i).toNat)
  case atStart => exact ⟨0, Nat.zero_le _, rfl, rfl, Below.refl _ _⟩
  case round =>
    obtain ⟨k, hk, rfl, HK, HB⟩ := hrel
    obtain ⟨wo, rfl⟩ : ∃ wo : World, wo = wr := ⟨_, rfl⟩
    by_cases hlt : k < n
    · have jk : (k : Int) < (n : Int) := by omega
      obtain ⟨x, hx⟩ := get_of_lt (l := l) (k := k) (by rw [HL.out]; exact hlt)
      obtain ⟨b, o, rfl, hb, c0, c1⟩ := (HR.out.up HB.out) k x hx
      have CP := Lib.hid (fun W => refP x.1 x.2 W)
      have HT := Lib.hid (okPs_take hx)
      have HN := Lib.hid (fun q => okPs_no hx q)
      clear hx
      cases hp : okP x.1 x.2 with
      | true =>
        rw [hp] at CP
        have HK2 : Hid (okPs (l.take (k + 1)) = true) := by rw [HT.out, HK.out, hp]; rfl
        clear HT HN hp
        go_wp2_with fail
        refine (CP.out _).mono ?_
        rintro e w1 ⟨rfl, hb1⟩
        have B1 := Lib.hid (bvia HB.out hb1)
        clear hb1 c0 c1
        go_wp2
        refine ⟨⟨k + 1, by omega, by go_num, HK2, B1⟩, ?_⟩
        first | (simp [intOf]; done) | (simp [intOf]; omega)
      | false =>
        rw [hp] at CP
        have HF := Lib.hid (HN.out hp)
        clear HT HN hp
        go_wp2_with fail
        refine (CP.out _).mono ?_
        rintro e w1 ⟨rfl, hb1⟩
        go_wp2
        go_ret
        exact ⟨by rw [HF.out]; rfl, bvia HB.out hb1⟩
    · obtain rfl : k = n := by omega
      have jk : ¬ (k : Int) < (k : Int) := by omega
      have hE := Lib.hid (show okPs l = true by have := HK.out; rw [← HL.out, List.take_length] at this; exact this)
      go_wp2
      go_ret
      exact ⟨by rw [hE.out]; rfl, HB.out⟩
set_option maxRecDepth 100000 in
set_option maxHeartbeats 1000000 in
theorem idxP (A : Option Addr) (n c : Nat) (l : List (Int × Int)) (w : World) (hr : RdP w w.heap.size A l) (hl : l.length = n) (hn : n ≤ 1000) :
    Calls Try.prog 93 #[.slice A n c, .func (.func 85) #[] #[]] w fun e w' => ∃ i : Int, e = .returned (.int .i64 i) ∧ decide (0 ≤ i) = !okPs l ∧ Below w.heap.size w w' := by
  have HR := Lib.hid hr
  have HL := Lib.hid hl
  clear hr hl
  go_enter Try.func93, Try.ntmps93
  go_wp2
  go_loopw [8] (fun i wr => ∃ (k : Nat), k ≤ n ∧ i = .int .i64 (k : Int) ∧ Hid (okPs (l.take k) = true) ∧ Hid (Below w.heap.size w wr)) (fun i _ => n - (intOf i).toNat)
  case atStart => exact ⟨0, Nat.zero_le _, rfl, rfl, Below.refl _ _⟩
  case round =>
    obtain ⟨k, hk, rfl, HK, HB⟩ := hrel
    obtain ⟨wo, rfl⟩ : ∃ wo : World, wo = wr := ⟨_, rfl⟩
    by_cases hlt : k < n
    · have jk : (k : Int) < (n : Int) := by omega
      obtain ⟨x, hx⟩ := get_of_lt (l := l) (k := k) (by rw [HL.out]; exact hlt)
      obtain ⟨b, o, rfl, hb, c0, c1⟩ := (HR.out.up HB.out) k x hx
      have CP := Lib.hid (fun W => outP x.1 x.2 W)
      have HT := Lib.hid (okPs_take hx)
      have HN := Lib.hid (fun q => okPs_no hx q)
      clear hx
      cases hp : okP x.1 x.2 with
      | true =>
        rw [hp] at CP
        have HK2 : Hid (okPs (l.take (k + 1)) = true) := by rw [HT.out, HK.out, hp]; rfl
        clear HT HN hp
        go_wp2_with fail
        refine (CP.out _).mono ?_
        rintro e w1 ⟨rfl, hb1⟩
        have B1 := Lib.hid (bvia HB.out hb1)
        clear hb1 c0 c1
        go_wp2
        refine ⟨⟨k + 1, by omega, by go_num, HK2, B1⟩, ?_⟩
        first | (simp [intOf]; done) | (simp [intOf]; omega)
      | false =>
        rw [hp] at CP
        have HF := Lib.hid (HN.out hp)
        clear HT HN hp
        go_wp2_with fail
        refine (CP.out _).mono ?_
        rintro e w1 ⟨rfl, hb1⟩
        go_wp2
        go_ret
        exact ⟨(k : Int), rfl, by rw [HF.out, decide_eq_true (by omega)]; rfl, bvia HB.out hb1⟩
    · obtain rfl : k = n := by omega
      have jk : ¬ (k : Int) < (k : Int) := by omega
      have hE := Lib.hid (show okPs l = true by have := HK.out; rw [← HL.out, List.take_length] at this; exact this)
      go_wp2
      go_ret
      exact ⟨-1, rfl, by rw [hE.out]; rfl, HB.out⟩
set_option maxRecDepth 100000 in
set_option maxHeartbeats 400000 in
theorem hasP (A : Option Addr) (n c : Nat) (l : List (Int × Int)) (w : World) (hr : RdP w w.heap.size A l) (hl : l.length = n) (hn : n ≤ 1000) :
    Calls Try.prog 84 #[.slice A n c, .func (.func 85) #[] #[]] w fun e w' => e = .returned (.bool (!okPs l)) ∧ Below w.heap.size w w' := by
  have CI := Lib.hid (idxP A n c l w hr hl hn)
  clear hr hl
  go_enter Try.func84, Try.ntmps84
  go_wp2_with fail
  refine CI.out.mono ?_
  rintro e w1 ⟨i, rfl, hi, hb1⟩
  have HI := Lib.hid hi
  clear hi
  go_wp2
  go_ret
  exact ⟨by rw [← HI.out]; rfl, hb1⟩
set_option maxRecDepth 100000 in
set_option maxHeartbeats 400000 in
theorem pointC (A : Option Addr) (n c : Nat) (l : List (Int × Int)) (w : World) (hr : RdP w w.heap.size A l) (hl : l.length = n) (hn : n ≤ 1000) :
    Calls Try.prog 49 #[.slice A n c] w fun e w' => e = .returned (.bool (okPs l)) ∧ Below w.heap.size w w' := by
  have CI := Lib.hid (hasP A n c l w hr hl hn)
  clear hr hl
  generalize okPs l = r at *
  go_enter Try.func49, Try.ntmps49
  go_wp2_with fail
  refine CI.out.mono ?_
  rintro e w1 ⟨rfl, hb1⟩
  go_wp2
  go_ret
  exact ⟨by cases r <;> rfl, hb1⟩
end Go.Proofs.Ytmghpaibdgkbfaa
/-
  Contracts of chapter 6: steps, products, crossings.
-/
namespace Go.Proofs.Ytmghpaibdgkbfaa
open Go.RowKit
abbrev In6 (M x : Int) : Prop := -M ≤ x ∧ x ≤ M
set_option maxRecDepth 100000 in
set_option maxHeartbeats 400000 in
theorem toC (x y u v : Int) (w : World) (hx : In6 1000000 x) (hy : In6 1000000 y) (hu : In6 1000000 u) (hv : In6 1000000 v) : Calls Try.prog 50 #[vP x y, vP u v] w fun e w' => e = .returned (vP (u - x) (v - y)) ∧ Below w.heap.size w w' := by
  have i1 : IntKind.i64.wrap (u - x) = u - x := IntWalk.i64_in _ (by omega)
  have i2 : IntKind.i64.wrap (v - y) = v - y := IntWalk.i64_in _ (by omega)
  go_enter Try.func50, Try.ntmps50
  go_wp2
  refine post_cell (g := w.heap.size + 1 + 1) (t := 78) (cs := [.int .i64 (u - x), .int .i64 (v - y)]) ?_ rfl rfl rfl Try.underlying78 (by kernel_rfl) ⟨rfl, by go_grown⟩
  first | (have := Has.new (w := (w.alloc (.cells #[.int .i64 x, .int .i64 y] 25)).alloc (.cells #[.int .i64 u, .int .i64 v] 25)) (t := 78) (arr := #[.int .i64 (u - x), .int .i64 (v - y)]) (cs := [.int .i64 (u - x), .int .i64 (v - y)]) rfl; rw [World.size_alloc, World.size_alloc] at this; exact this) | (trace_state; sorry)
set_option maxRecDepth 100000 in
set_option maxHeartbeats 400000 in
theorem stepC (x y u v : Int) (w : World) (hx : In6 1000000 x) (hy : In6 1000000 y) (hu : In6 1000000 u) (hv : In6 1000000 v) : Calls Try.prog 48 #[vP x y, vP u v] w fun e w' => e = .returned (vP (u - x) (v - y)) ∧ Below w.heap.size w w' := by
  have i1 : IntKind.i64.wrap (u - x) = u - x := IntWalk.i64_in _ (by omega)
  have i2 : IntKind.i64.wrap (v - y) = v - y := IntWalk.i64_in _ (by omega)
  go_enter Try.func48, Try.ntmps48
  go_wp2
  refine post_cell (g := w.heap.size + 1 + 1) (t := 25) (cs := [.int .i64 (u - x), .int .i64 (v - y)]) ?_ rfl rfl rfl Try.underlying25 (by kernel_rfl) ⟨rfl, by go_grown⟩
  first | (have := Has.new (w := (w.alloc (.cells #[.int .i64 x, .int .i64 y] 25)).alloc (.cells #[.int .i64 u, .int .i64 v] 25)) (t := 25) (arr := #[.int .i64 (u - x), .int .i64 (v - y)]) (cs := [.int .i64 (u - x), .int .i64 (v - y)]) rfl; rw [World.size_alloc, World.size_alloc] at this; exact this) | (trace_state; sorry)
set_option maxRecDepth 100000 in
set_option maxHeartbeats 400000 in
theorem crossC (x y u v : Int) (w : World) (hx : In6 2000000 x) (hy : In6 2000000 y) (hu : In6 2000000 u) (hv : In6 2000000 v) : Calls Try.prog 56 #[vP x y, vP u v] w fun e w' => e = .returned (.int .i64 (x * v - y * u)) ∧ Below w.heap.size w w' := by
  have m1 := mb 2000000 2000000 4000000000000 hx hv (by decide)
  have m2 := mb 2000000 2000000 4000000000000 hy hu (by decide)
  have i1 : IntKind.i64.wrap (x * v) = x * v := IntWalk.i64_in _ (by omega)
  have i2 : IntKind.i64.wrap (y * u) = y * u := IntWalk.i64_in _ (by omega)
  have i3 : IntKind.i64.wrap (x * v - y * u) = x * v - y * u := IntWalk.i64_in _ (by omega)
  go_enter Try.func56, Try.ntmps56
  go_wp2
  go_ret
  exact ⟨rfl, by go_grown⟩
set_option maxRecDepth 100000 in
set_option maxHeartbeats 400000 in
theorem rcrossC (x y u v : Int) (w : World) (hx : In6 2000000 x) (hy : In6 2000000 y) (hu : In6 2000000 u) (hv : In6 2000000 v) : Calls Try.prog 58 #[vP x y, vP u v] w fun e w' => e = .returned (.int .i64 (x * v - y * u)) ∧ Below w.heap.size w w' := by
  have m1 := mb 2000000 2000000 4000000000000 hx hv (by decide)
  have m2 := mb 2000000 2000000 4000000000000 hy hu (by decide)
  have i1 : IntKind.i64.wrap (x * v) = x * v := IntWalk.i64_in _ (by omega)
  have i2 : IntKind.i64.wrap (y * u) = y * u := IntWalk.i64_in _ (by omega)
  have i3 : IntKind.i64.wrap (x * v - y * u) = x * v - y * u := IntWalk.i64_in _ (by omega)
  go_enter Try.func58, Try.ntmps58
  go_wp2
  go_ret
  exact ⟨rfl, by go_grown⟩
def prodL (a b c x y u v : Int) : Int := x * (a * u + b * v) + y * (b * u + c * v)
theorem prodL_ref (a b c x y u v : Int) : a * x * u + b * (x * v + y * u) + c * y * v = prodL a b c x y u v := by unfold prodL; grind
set_option maxRecDepth 100000 in
set_option maxHeartbeats 400000 in
theorem productC (a b c x y u v : Int) (w : World) (ha : In6 10000 a) (hb : In6 10000 b) (hc : In6 10000 c) (hx : In6 2000000 x) (hy : In6 2000000 y) (hu : In6 2000000 u) (hv : In6 2000000 v) : Calls Try.prog 51 #[vP x y, vL a b c, vP u v] w fun e w' => e = .returned (.int .i64 (prodL a b c x y u v)) ∧ Below w.heap.size w w' := by
  have m1 := mb 10000 2000000 20000000000 ha hu (by decide)
  have m2 := mb 10000 2000000 20000000000 hb hv (by decide)
  have m3 := mb 10000 2000000 20000000000 hb hu (by decide)
  have m4 := mb 10000 2000000 20000000000 hc hv (by decide)
  have m5 := mb 2000000 40000000000 80000000000000000 (b := a * u + b * v) hx (by omega) (by decide)
  have m6 := mb 2000000 40000000000 80000000000000000 (b := b * u + c * v) hy (by omega) (by decide)
  have i1 : IntKind.i64.wrap (a * u) = a * u := IntWalk.i64_in _ (by omega)
  have i2 : IntKind.i64.wrap (b * v) = b * v := IntWalk.i64_in _ (by omega)
  have i3 : IntKind.i64.wrap (b * u) = b * u := IntWalk.i64_in _ (by omega)
  have i4 : IntKind.i64.wrap (c * v) = c * v := IntWalk.i64_in _ (by omega)
  have i5 : IntKind.i64.wrap (a * u + b * v) = a * u + b * v := IntWalk.i64_in _ (by omega)
  have i6 : IntKind.i64.wrap (b * u + c * v) = b * u + c * v := IntWalk.i64_in _ (by omega)
  have i7 : IntKind.i64.wrap (x * (a * u + b * v)) = x * (a * u + b * v) := IntWalk.i64_in _ (by omega)
  have i8 : IntKind.i64.wrap (y * (b * u + c * v)) = y * (b * u + c * v) := IntWalk.i64_in _ (by omega)
  have i9 : IntKind.i64.wrap (x * (a * u + b * v) + y * (b * u + c * v)) = x * (a * u + b * v) + y * (b * u + c * v) := IntWalk.i64_in _ (by omega)
  go_enter Try.func51, Try.ntmps51
  go_wp2
  go_ret
  exact ⟨rfl, by go_grown⟩
set_option maxRecDepth 100000 in
set_option maxHeartbeats 400000 in
theorem rproductC (a b c x y u v : Int) (w : World) (ha : In6 10000 a) (hb : In6 10000 b) (hc : In6 10000 c) (hx : In6 2000000 x) (hy : In6 2000000 y) (hu : In6 2000000 u) (hv : In6 2000000 v) : Calls Try.prog 47 #[vL a b c, vP x y, vP u v] w fun e w' => e = .returned (.int .i64 (prodL a b c x y u v)) ∧ Below w.heap.size w w' := by
  have m1 := mb 10000 2000000 20000000000 ha hx (by decide)
  have m2 := mb 20000000000 2000000 40000000000000000 m1 hu (by decide)
  have m3 := mb 2000000 2000000 4000000000000 hx hv (by decide)
  have m4 := mb 2000000 2000000 4000000000000 hy hu (by decide)
  have m5 := mb 10000 8000000000000 80000000000000000 (b := x * v + y * u) hb (by omega) (by decide)
  have m6 := mb 10000 2000000 20000000000 hc hy (by decide)
  have m7 := mb 20000000000 2000000 40000000000000000 m6 hv (by decide)
  have i1 : IntKind.i64.wrap (a * x) = a * x := IntWalk.i64_in _ (by omega)
  have i2 : IntKind.i64.wrap (a * x * u) = a * x * u := IntWalk.i64_in _ (by omega)
  have i3 : IntKind.i64.wrap (x * v) = x * v := IntWalk.i64_in _ (by omega)
  have i4 : IntKind.i64.wrap (y * u) = y * u := IntWalk.i64_in _ (by omega)
  have i5 : IntKind.i64.wrap (x * v + y * u) = x * v + y * u := IntWalk.i64_in _ (by omega)
  have i6 : IntKind.i64.wrap (b * (x * v + y * u)) = b * (x * v + y * u) := IntWalk.i64_in _ (by omega)
  have i7 : IntKind.i64.wrap (a * x * u + b * (x * v + y * u)) = a * x * u + b * (x * v + y * u) := IntWalk.i64_in _ (by omega)
  have i8 : IntKind.i64.wrap (c * y) = c * y := IntWalk.i64_in _ (by omega)
  have i9 : IntKind.i64.wrap (c * y * v) = c * y * v := IntWalk.i64_in _ (by omega)
  have i10 : IntKind.i64.wrap (a * x * u + b * (x * v + y * u) + c * y * v) = a * x * u + b * (x * v + y * u) + c * y * v := IntWalk.i64_in _ (by omega)
  have HE := Lib.hid (prodL_ref a b c x y u v)
  go_enter Try.func47, Try.ntmps47
  go_wp2
  go_ret
  exact ⟨by rw [← HE.out]; rfl, by go_grown⟩
def sgn (n : Int) : Int := if n < 0 then -1 else if 0 < n then 1 else 0
set_option maxHeartbeats 400000 in
theorem signC (n : Int) (w : World) : Calls Try.prog 57 #[.int .i64 n] w fun e w' => e = .returned (.int .i64 (sgn n)) ∧ w = w' := by
  unfold sgn
  by_cases h1 : n < 0
  · rw [if_pos h1]
    go_enter Try.func57, Try.ntmps57
    go_wp2
    go_ret
    exact ⟨rfl, rfl⟩
  · rw [if_neg h1]
    by_cases h2 : 0 < n
    · rw [if_pos h2]
      go_enter Try.func57, Try.ntmps57
      go_wp2
      go_ret
      exact ⟨rfl, rfl⟩
    · rw [if_neg h2]
      go_enter Try.func57, Try.ntmps57
      go_wp2
      go_ret
      exact ⟨rfl, rfl⟩
set_option maxHeartbeats 400000 in
theorem nanC (n : Int) (w : World) : Calls Try.prog 86 #[.int .i64 n] w fun e w' => e = .returned (.bool false) ∧ w = w' := by
  go_enter Try.func86, Try.ntmps86
  go_wp2
  go_ret
  exact ⟨by simp, rfl⟩
/-- what cmp.Compare says -/
def cmpI (a b : Int) : Int := if a < b then -1 else if b < a then 1 else 0
theorem cmpI_zero (n : Int) : cmpI n 0 = sgn n := rfl
set_option maxRecDepth 100000 in
set_option maxHeartbeats 400000 in
theorem compare64 (a b : Int) (w : World) : Calls Try.prog 55 #[.int .i64 a, .int .i64 b] w fun e w' => e = .returned (.int .i64 (cmpI a b)) ∧ w = w' := by
  have CA := Lib.hid (fun W => nanC a W)
  have CB := Lib.hid (fun W => nanC b W)
  unfold cmpI
  by_cases h1 : a < b
  · rw [if_pos h1]
    go_enter Try.func55, Try.ntmps55
    go_wp2_with fail
    refine (CA.out _).mono ?_
    rintro e w1 ⟨rfl, rfl⟩
    go_wp2_with fail
    refine (CB.out _).mono ?_
    rintro e w1 ⟨rfl, rfl⟩
    go_wp2
    go_ret
    exact ⟨rfl, rfl⟩
  · rw [if_neg h1]
    by_cases h2 : b < a
    · rw [if_pos h2]
      go_enter Try.func55, Try.ntmps55
      go_wp2_with fail
      refine (CA.out _).mono ?_
      rintro e w1 ⟨rfl, rfl⟩
      go_wp2_with fail
      refine (CB.out _).mono ?_
      rintro e w1 ⟨rfl, rfl⟩
      go_wp2
      go_ret
      exact ⟨rfl, rfl⟩
    · rw [if_neg h2]
      go_enter Try.func55, Try.ntmps55
      go_wp2_with fail
      refine (CA.out _).mono ?_
      rintro e w1 ⟨rfl, rfl⟩
      go_wp2_with fail
      refine (CB.out _).mono ?_
      rintro e w1 ⟨rfl, rfl⟩
      go_wp2
      go_ret
      exact ⟨rfl, rfl⟩
end Go.Proofs.Ytmghpaibdgkbfaa
/-
  Contracts of chapter 6: Dot, Square, Side: the program's and the document's.
-/
namespace Go.Proofs.Ytmghpaibdgkbfaa
open Go.RowKit
theorem Has.new2 {w : World} {o : Obj} {arr : Array Value} {t : TypeId} {cs : List Value} (h : arr = cs.toArray) : Has ((w.alloc o).alloc (.cells arr t)) (w.heap.size + 1) t cs := by
  have := Has.new (w := w.alloc o) (t := t) h
  rwa [World.size_alloc] at this
def ptsC (l : List (Int × Int)) : List Value := l.flatMap (fun x => [.int .i64 x.1, .int .i64 x.2])
theorem ptsC_get : ∀ {l : List (Int × Int)} {k : Nat} {x : Int × Int}, l[k]? = some x → (ptsC l)[k * 2]? = some (.int .i64 x.1) ∧ (ptsC l)[k * 2 + 1]? = some (.int .i64 x.2)
  | [], k, x, h => by simp at h
  | y :: l, 0, x, h => by
    obtain rfl : y = x := by simpa using h
    exact ⟨rfl, rfl⟩
  | y :: l, k + 1, x, h => by
    obtain ⟨h1, h2⟩ := ptsC_get (l := l) (k := k) (x := x) (by simpa using h)
    have e : ptsC (y :: l) = [.int .i64 y.1, .int .i64 y.2] ++ ptsC l := rfl
    rw [e]
    refine ⟨?_, ?_⟩
    · rw [List.getElem?_append_right (by simp; omega)]
      rw [show (k + 1) * 2 - [Value.int .i64 y.1, .int .i64 y.2].length = k * 2 by simp; omega]
      exact h1
    · rw [List.getElem?_append_right (by simp; omega)]
      rw [show (k + 1) * 2 + 1 - [Value.int .i64 y.1, .int .i64 y.2].length = k * 2 + 1 by simp; omega]
      exact h2
theorem rdP_new {w : World} {t : TypeId} (l : List (Int × Int)) : RdP (w.alloc (.cells (ptsC l).toArray t)) (w.alloc (.cells (ptsC l).toArray t)).heap.size (some ⟨w.heap.size, 0, none⟩) l := fun k x hx => by
  have hh : Has (w.alloc (.cells (ptsC l).toArray t)) w.heap.size t (ptsC l) := Has.new rfl
  obtain ⟨h1, h2⟩ := ptsC_get hx
  refine ⟨w.heap.size, 0, rfl, hh.lt, ?_, ?_⟩
  · rw [Nat.zero_add]; exact (hh.cell (k * 2)).trans h1
  · rw [Nat.zero_add]; exact (hh.cell (k * 2 + 1)).trans h2
theorem okPs_all {l : List (Int × Int)} (h : okPs l = true) {x : Int × Int} (hx : x ∈ l) : (-1000000 ≤ x.1 ∧ x.1 ≤ 1000000) ∧ (-1000000 ≤ x.2 ∧ x.2 ≤ 1000000) := by
  unfold okPs at h
  exact (okP_iff x.1 x.2).1 (List.all_eq_true.1 h x hx)
def dotR (a b c ox oy px py qx qy : Int) : Int × Int := if okL a b c = true ∧ okPs [(ox, oy), (px, py), (qx, qy)] = true then (prodL a b c (px - ox) (py - oy) (qx - ox) (qy - oy), 0) else (0, 2)
set_option maxRecDepth 100000 in
set_option maxHeartbeats 600000 in
theorem dotC (a b c ox oy px py qx qy : Int) (w : World) : Calls Try.prog 15 #[vL a b c, vP ox oy, vP px py, vP qx qy] w fun e w' => e = .returned (.tuple #[.int .i64 (dotR a b c ox oy px py qx qy).1, .int .i64 (dotR a b c ox oy px py qx qy).2]) ∧ Below w.heap.size w w' := by
  have CC := Lib.hid (fun W => checkC a b c W)
  obtain ⟨D, hD⟩ : ∃ D, D = dotR a b c ox oy px py qx qy := ⟨_, rfl⟩
  rw [← hD]
  have HD := Lib.hid hD
  clear hD
  have F0 : Hid (∀ W, Below (w.heap.size + 1 + 1 + 1 + 1) ((((w.alloc (.cells #[.int .i64 a, .int .i64 b, .int .i64 c] 23)).alloc (.cells #[.int .i64 ox, .int .i64 oy] 25)).alloc (.cells #[.int .i64 px, .int .i64 py] 25)).alloc (.cells #[.int .i64 qx, .int .i64 qy] 25)) W → Has W w.heap.size 23 [.int .i64 a, .int .i64 b, .int .i64 c] ∧ Has W (w.heap.size + 1) 25 [.int .i64 ox, .int .i64 oy] ∧ Has W (w.heap.size + 1 + 1) 25 [.int .i64 px, .int .i64 py] ∧ Has W (w.heap.size + 1 + 1 + 1) 25 [.int .i64 qx, .int .i64 qy]) := fun W hb => by
    have h0 : Has ((((w.alloc (.cells #[.int .i64 a, .int .i64 b, .int .i64 c] 23)).alloc (.cells #[.int .i64 ox, .int .i64 oy] 25)).alloc (.cells #[.int .i64 px, .int .i64 py] 25)).alloc (.cells #[.int .i64 qx, .int .i64 qy] 25)) w.heap.size 23 [.int .i64 a, .int .i64 b, .int .i64 c] := (((Has.new rfl).alloc _).alloc _).alloc _
    have h1 := ((Has.new2 (w := w) (o := .cells #[.int .i64 a, .int .i64 b, .int .i64 c] 23) (t := 25) (arr := #[.int .i64 ox, .int .i64 oy]) (cs := [.int .i64 ox, .int .i64 oy]) rfl).alloc (.cells #[.int .i64 px, .int .i64 py] 25)).alloc (.cells #[.int .i64 qx, .int .i64 qy] 25)
    have h2 := (Has.new2 (w := w.alloc (.cells #[.int .i64 a, .int .i64 b, .int .i64 c] 23)) (o := .cells #[.int .i64 ox, .int .i64 oy] 25) (t := 25) (arr := #[.int .i64 px, .int .i64 py]) (cs := [.int .i64 px, .int .i64 py]) rfl).alloc (.cells #[.int .i64 qx, .int .i64 qy] 25)
    have h3 := Has.new2 (w := (w.alloc (.cells #[.int .i64 a, .int .i64 b, .int .i64 c] 23)).alloc (.cells #[.int .i64 ox, .int .i64 oy] 25)) (o := .cells #[.int .i64 px, .int .i64 py] 25) (t := 25) (arr := #[.int .i64 qx, .int .i64 qy]) (cs := [.int .i64 qx, .int .i64 qy]) rfl
    rw [World.size_alloc] at h2
    rw [World.size_alloc, World.size_alloc] at h3
    exact ⟨h0.below hb (by omega), h1.below hb (by omega), h2.below hb (by omega), h3.below hb (by omega)⟩
  have S0 : Hid (((((w.alloc (.cells #[.int .i64 a, .int .i64 b, .int .i64 c] 23)).alloc (.cells #[.int .i64 ox, .int .i64 oy] 25)).alloc (.cells #[.int .i64 px, .int .i64 py] 25)).alloc (.cells #[.int .i64 qx, .int .i64 qy] 25)).heap.size = w.heap.size + 1 + 1 + 1 + 1) := by show _ = _; rw [World.size_alloc, World.size_alloc, World.size_alloc, World.size_alloc]
  have B0 : Hid (Below w.heap.size w ((((w.alloc (.cells #[.int .i64 a, .int .i64 b, .int .i64 c] 23)).alloc (.cells #[.int .i64 ox, .int .i64 oy] 25)).alloc (.cells #[.int .i64 px, .int .i64 py] 25)).alloc (.cells #[.int .i64 qx, .int .i64 qy] 25))) := by show Below _ _ _; go_grown
  by_cases hL : okL a b c = true
  case neg =>
    have hE : errL a b c = 2 := if_neg hL
    rw [hE] at CC
    have hD2 : D = (0, 2) := HD.out.trans (if_neg (fun h => hL h.1))
    subst hD2
    clear hE hL HD
    go_enter Try.func15, Try.ntmps15
    go_wp2_with fail
    refine (CC.out _).mono ?_
    rintro e w1 ⟨rfl, hb1⟩
    go_wp2
    go_ret2
    exact ⟨rfl, bvia B0.out hb1⟩
  have hE : errL a b c = 0 := if_pos hL
  rw [hE] at CC
  obtain ⟨l1, l2, l3, l4, l5, l6, _⟩ := (okL_iff a b c).1 hL
  clear hE
  have CP := Lib.hid (fun (W : World) => pointC (some ⟨W.heap.size, 0, none⟩) 3 3 [(ox, oy), (px, py), (qx, qy)] (W.alloc (.cells #[.int .i64 ox, .int .i64 oy, .int .i64 px, .int .i64 py, .int .i64 qx, .int .i64 qy] 25)) (rdP_new [(ox, oy), (px, py), (qx, qy)]) rfl (by decide))
  cases hP : okPs [(ox, oy), (px, py), (qx, qy)] with
  | false =>
    rw [hP] at CP
    have hD2 : D = (0, 2) := HD.out.trans (if_neg (fun h => by rw [hP] at h; exact absurd h.2 (by decide)))
    subst hD2
    clear hP HD hL
    go_enter Try.func15, Try.ntmps15
    go_wp2_with fail
    refine (CC.out _).mono ?_
    rintro e w1 ⟨rfl, hb1⟩
    rw [S0.out] at hb1
    obtain ⟨g0, g1, g2, g3⟩ := F0.out w1 hb1
    have x0 : w1.cell? ⟨w.heap.size + 1, 0, none⟩ = some (.int .i64 ox) := g1.cell 0
    have x1 : w1.cell? ⟨w.heap.size + 1, 1, none⟩ = some (.int .i64 oy) := g1.cell 1
    have x2 : w1.cell? ⟨w.heap.size + 1 + 1, 0, none⟩ = some (.int .i64 px) := g2.cell 0
    have x3 : w1.cell? ⟨w.heap.size + 1 + 1, 1, none⟩ = some (.int .i64 py) := g2.cell 1
    have x4 : w1.cell? ⟨w.heap.size + 1 + 1 + 1, 0, none⟩ = some (.int .i64 qx) := g3.cell 0
    have x5 : w1.cell? ⟨w.heap.size + 1 + 1 + 1, 1, none⟩ = some (.int .i64 qy) := g3.cell 1
    have B1 := Lib.hid (B0.out.trans (hb1.mono (by omega)))
    clear hb1 g0 g1 g2 g3
    go_wp2_with fail
    refine (CP.out _).mono ?_
    rintro e w2 ⟨rfl, hb2⟩
    go_wp2
    go_ret2
    exact ⟨rfl, bvia B1.out (bvia (by go_grown) hb2)⟩
  | true =>
    rw [hP] at CP
    have hD2 : D = (prodL a b c (px - ox) (py - oy) (qx - ox) (qy - oy), 0) := HD.out.trans (if_pos ⟨hL, hP⟩)
    have o1 := okPs_all hP (x := (ox, oy)) (by simp)
    have o2 := okPs_all hP (x := (px, py)) (by simp)
    have o3 := okPs_all hP (x := (qx, qy)) (by simp)
    simp only at o1 o2 o3
    have C1 := Lib.hid (fun W => toC ox oy px py W o1.1 o1.2 o2.1 o2.2)
    have C2 := Lib.hid (fun W => toC ox oy qx qy W o1.1 o1.2 o3.1 o3.2)
    have C3 := Lib.hid (fun W => productC a b c (px - ox) (py - oy) (qx - ox) (qy - oy) W ⟨by omega, by omega⟩ ⟨by omega, by omega⟩ ⟨by omega, by omega⟩ ⟨by omega, by omega⟩ ⟨by omega, by omega⟩ ⟨by omega, by omega⟩ ⟨by omega, by omega⟩)
    subst hD2
    generalize prodL a b c (px - ox) (py - oy) (qx - ox) (qy - oy) = r at *
    clear hP HD hL o1 o2 o3
    go_enter Try.func15, Try.ntmps15
    go_wp2_with fail
    refine (CC.out _).mono ?_
    rintro e w1 ⟨rfl, hb1⟩
    rw [S0.out] at hb1
    obtain ⟨g0, g1, g2, g3⟩ := F0.out w1 hb1
    have x0 : w1.cell? ⟨w.heap.size + 1, 0, none⟩ = some (.int .i64 ox) := g1.cell 0
    have x1 : w1.cell? ⟨w.heap.size + 1, 1, none⟩ = some (.int .i64 oy) := g1.cell 1
    have x2 : w1.cell? ⟨w.heap.size + 1 + 1, 0, none⟩ = some (.int .i64 px) := g2.cell 0
    have x3 : w1.cell? ⟨w.heap.size + 1 + 1, 1, none⟩ = some (.int .i64 py) := g2.cell 1
    have x4 : w1.cell? ⟨w.heap.size + 1 + 1 + 1, 0, none⟩ = some (.int .i64 qx) := g3.cell 0
    have x5 : w1.cell? ⟨w.heap.size + 1 + 1 + 1, 1, none⟩ = some (.int .i64 qy) := g3.cell 1
    have B1 := Lib.hid (B0.out.trans (hb1.mono (by omega)))
    have HB1 := Lib.hid hb1
    clear hb1 g0 g1 g2 g3
    go_wp2_with fail
    refine (CP.out _).mono ?_
    rintro e w2 ⟨rfl, hb2⟩
    have z1 := HB1.out.size
    rw [S0.out] at z1
    have hb3 : Below w1.heap.size w1 w2 := bvia (by go_grown) hb2
    obtain ⟨g0, g1, g2, g3⟩ := F0.out w2 (HB1.out.trans (hb3.mono z1))
    have y0 : w2.cell? ⟨w.heap.size, 0, none⟩ = some (.int .i64 a) := g0.cell 0
    have y1 : w2.cell? ⟨w.heap.size, 1, none⟩ = some (.int .i64 b) := g0.cell 1
    have y2 : w2.cell? ⟨w.heap.size, 2, none⟩ = some (.int .i64 c) := g0.cell 2
    have x0 : w2.cell? ⟨w.heap.size + 1, 0, none⟩ = some (.int .i64 ox) := g1.cell 0
    have x1 : w2.cell? ⟨w.heap.size + 1, 1, none⟩ = some (.int .i64 oy) := g1.cell 1
    have x2 : w2.cell? ⟨w.heap.size + 1 + 1, 0, none⟩ = some (.int .i64 px) := g2.cell 0
    have x3 : w2.cell? ⟨w.heap.size + 1 + 1, 1, none⟩ = some (.int .i64 py) := g2.cell 1
    have x4 : w2.cell? ⟨w.heap.size + 1 + 1 + 1, 0, none⟩ = some (.int .i64 qx) := g3.cell 0
    have x5 : w2.cell? ⟨w.heap.size + 1 + 1 + 1, 1, none⟩ = some (.int .i64 qy) := g3.cell 1
    have q0 := g0.lt
    have q1 := g1.lt
    have q2 := g2.lt
    have q3 := g3.lt
    have B2 := Lib.hid (bvia B1.out hb3)
    clear hb2 hb3 g0 g1 g2 g3 z1
    go_wp2
    have hxc := fun (x : Ext w2) => x.cell
    refine wp_region_ext (by kernel_rfl) (by kernel_rfl) ?_
    repeat (go_big_quiet_step ((first | (go_at_call_of 50 (Value.agg #[Value.int .i64 px, Value.int .i64 py]); exact ext_call (C1.out _)) | (go_at_call_of 50 (Value.agg #[Value.int .i64 qx, Value.int .i64 qy]); exact ext_call (C2.out _)) | (go_at_call 51; exact ext_call (C3.out _)))))
    refine wpQuiet_nil ?_
    intro w3 hw'
    have hb3 := ext_below hw'
    clear hw' hxc
    go_wp2
    go_ret2
    exact ⟨rfl, bvia B2.out hb3⟩
set_option maxRecDepth 100000 in
set_option maxHeartbeats 600000 in
theorem rdotC (a b c ox oy px py qx qy : Int) (w : World) : Calls Try.prog 16 #[vL a b c, vP ox oy, vP px py, vP qx qy] w fun e w' => e = .returned (.tuple #[.int .i64 (dotR a b c ox oy px py qx qy).1, .int .i64 (dotR a b c ox oy px py qx qy).2]) ∧ Below w.heap.size w w' := by
  have CC := Lib.hid (fun W => rcheckC a b c W)
  obtain ⟨D, hD⟩ : ∃ D, D = dotR a b c ox oy px py qx qy := ⟨_, rfl⟩
  rw [← hD]
  have HD := Lib.hid hD
  clear hD
  have F0 : Hid (∀ W, Below (w.heap.size + 1 + 1 + 1 + 1) ((((w.alloc (.cells #[.int .i64 a, .int .i64 b, .int .i64 c] 23)).alloc (.cells #[.int .i64 ox, .int .i64 oy] 25)).alloc (.cells #[.int .i64 px, .int .i64 py] 25)).alloc (.cells #[.int .i64 qx, .int .i64 qy] 25)) W → Has W w.heap.size 23 [.int .i64 a, .int .i64 b, .int .i64 c] ∧ Has W (w.heap.size + 1) 25 [.int .i64 ox, .int .i64 oy] ∧ Has W (w.heap.size + 1 + 1) 25 [.int .i64 px, .int .i64 py] ∧ Has W (w.heap.size + 1 + 1 + 1) 25 [.int .i64 qx, .int .i64 qy]) := fun W hb => by
    have h0 : Has ((((w.alloc (.cells #[.int .i64 a, .int .i64 b, .int .i64 c] 23)).alloc (.cells #[.int .i64 ox, .int .i64 oy] 25)).alloc (.cells #[.int .i64 px, .int .i64 py] 25)).alloc (.cells #[.int .i64 qx, .int .i64 qy] 25)) w.heap.size 23 [.int .i64 a, .int .i64 b, .int .i64 c] := (((Has.new rfl).alloc _).alloc _).alloc _
    have h1 := ((Has.new2 (w := w) (o := .cells #[.int .i64 a, .int .i64 b, .int .i64 c] 23) (t := 25) (arr := #[.int .i64 ox, .int .i64 oy]) (cs := [.int .i64 ox, .int .i64 oy]) rfl).alloc (.cells #[.int .i64 px, .int .i64 py] 25)).alloc (.cells #[.int .i64 qx, .int .i64 qy] 25)
    have h2 := (Has.new2 (w := w.alloc (.cells #[.int .i64 a, .int .i64 b, .int .i64 c] 23)) (o := .cells #[.int .i64 ox, .int .i64 oy] 25) (t := 25) (arr := #[.int .i64 px, .int .i64 py]) (cs := [.int .i64 px, .int .i64 py]) rfl).alloc (.cells #[.int .i64 qx, .int .i64 qy] 25)
    have h3 := Has.new2 (w := (w.alloc (.cells #[.int .i64 a, .int .i64 b, .int .i64 c] 23)).alloc (.cells #[.int .i64 ox, .int .i64 oy] 25)) (o := .cells #[.int .i64 px, .int .i64 py] 25) (t := 25) (arr := #[.int .i64 qx, .int .i64 qy]) (cs := [.int .i64 qx, .int .i64 qy]) rfl
    rw [World.size_alloc] at h2
    rw [World.size_alloc, World.size_alloc] at h3
    exact ⟨h0.below hb (by omega), h1.below hb (by omega), h2.below hb (by omega), h3.below hb (by omega)⟩
  have S0 : Hid (((((w.alloc (.cells #[.int .i64 a, .int .i64 b, .int .i64 c] 23)).alloc (.cells #[.int .i64 ox, .int .i64 oy] 25)).alloc (.cells #[.int .i64 px, .int .i64 py] 25)).alloc (.cells #[.int .i64 qx, .int .i64 qy] 25)).heap.size = w.heap.size + 1 + 1 + 1 + 1) := by show _ = _; rw [World.size_alloc, World.size_alloc, World.size_alloc, World.size_alloc]
  have B0 : Hid (Below w.heap.size w ((((w.alloc (.cells #[.int .i64 a, .int .i64 b, .int .i64 c] 23)).alloc (.cells #[.int .i64 ox, .int .i64 oy] 25)).alloc (.cells #[.int .i64 px, .int .i64 py] 25)).alloc (.cells #[.int .i64 qx, .int .i64 qy] 25))) := by show Below _ _ _; go_grown
  by_cases hL : okL a b c = true
  case neg =>
    have hE : errL a b c = 2 := if_neg hL
    rw [hE] at CC
    have hD2 : D = (0, 2) := HD.out.trans (if_neg (fun h => hL h.1))
    subst hD2
    clear hE hL HD
    go_enter Try.func16, Try.ntmps16
    go_wp2_with fail
    refine (CC.out _).mono ?_
    rintro e w1 ⟨rfl, hb1⟩
    go_wp2
    go_ret2
    exact ⟨rfl, bvia B0.out hb1⟩
  have hE : errL a b c = 0 := if_pos hL
  rw [hE] at CC
  obtain ⟨l1, l2, l3, l4, l5, l6, _⟩ := (okL_iff a b c).1 hL
  clear hE
  have CP := Lib.hid (fun (W : World) => refPs (some ⟨W.heap.size, 0, none⟩) 3 3 [(ox, oy), (px, py), (qx, qy)] (W.alloc (.cells #[.int .i64 ox, .int .i64 oy, .int .i64 px, .int .i64 py, .int .i64 qx, .int .i64 qy] 25)) (rdP_new [(ox, oy), (px, py), (qx, qy)]) rfl (by decide))
  cases hP : okPs [(ox, oy), (px, py), (qx, qy)] with
  | false =>
    rw [hP] at CP
    have hD2 : D = (0, 2) := HD.out.trans (if_neg (fun h => by rw [hP] at h; exact absurd h.2 (by decide)))
    subst hD2
    clear hP HD hL
    go_enter Try.func16, Try.ntmps16
    go_wp2_with fail
    refine (CC.out _).mono ?_
    rintro e w1 ⟨rfl, hb1⟩
    rw [S0.out] at hb1
    obtain ⟨g0, g1, g2, g3⟩ := F0.out w1 hb1
    have x0 : w1.cell? ⟨w.heap.size + 1, 0, none⟩ = some (.int .i64 ox) := g1.cell 0
    have x1 : w1.cell? ⟨w.heap.size + 1, 1, none⟩ = some (.int .i64 oy) := g1.cell 1
    have x2 : w1.cell? ⟨w.heap.size + 1 + 1, 0, none⟩ = some (.int .i64 px) := g2.cell 0
    have x3 : w1.cell? ⟨w.heap.size + 1 + 1, 1, none⟩ = some (.int .i64 py) := g2.cell 1
    have x4 : w1.cell? ⟨w.heap.size + 1 + 1 + 1, 0, none⟩ = some (.int .i64 qx) := g3.cell 0
    have x5 : w1.cell? ⟨w.heap.size + 1 + 1 + 1, 1, none⟩ = some (.int .i64 qy) := g3.cell 1
    have B1 := Lib.hid (B0.out.trans (hb1.mono (by omega)))
    clear hb1 g0 g1 g2 g3
    go_wp2_with fail
    refine (CP.out _).mono ?_
    rintro e w2 ⟨rfl, hb2⟩
    go_wp2
    go_ret2
    exact ⟨rfl, bvia B1.out (bvia (by go_grown) hb2)⟩
  | true =>
    rw [hP] at CP
    have hD2 : D = (prodL a b c (px - ox) (py - oy) (qx - ox) (qy - oy), 0) := HD.out.trans (if_pos ⟨hL, hP⟩)
    have o1 := okPs_all hP (x := (ox, oy)) (by simp)
    have o2 := okPs_all hP (x := (px, py)) (by simp)
    have o3 := okPs_all hP (x := (qx, qy)) (by simp)
    simp only at o1 o2 o3
    have C1 := Lib.hid (fun W => stepC ox oy px py W o1.1 o1.2 o2.1 o2.2)
    have C2 := Lib.hid (fun W => stepC ox oy qx qy W o1.1 o1.2 o3.1 o3.2)
    have C3 := Lib.hid (fun W => rproductC a b c (px - ox) (py - oy) (qx - ox) (qy - oy) W ⟨by omega, by omega⟩ ⟨by omega, by omega⟩ ⟨by omega, by omega⟩ ⟨by omega, by omega⟩ ⟨by omega, by omega⟩ ⟨by omega, by omega⟩ ⟨by omega, by omega⟩)
    subst hD2
    generalize prodL a b c (px - ox) (py - oy) (qx - ox) (qy - oy) = r at *
    clear hP HD hL o1 o2 o3
    go_enter Try.func16, Try.ntmps16
    go_wp2_with fail
    refine (CC.out _).mono ?_
    rintro e w1 ⟨rfl, hb1⟩
    rw [S0.out] at hb1
    obtain ⟨g0, g1, g2, g3⟩ := F0.out w1 hb1
    have x0 : w1.cell? ⟨w.heap.size + 1, 0, none⟩ = some (.int .i64 ox) := g1.cell 0
    have x1 : w1.cell? ⟨w.heap.size + 1, 1, none⟩ = some (.int .i64 oy) := g1.cell 1
    have x2 : w1.cell? ⟨w.heap.size + 1 + 1, 0, none⟩ = some (.int .i64 px) := g2.cell 0
    have x3 : w1.cell? ⟨w.heap.size + 1 + 1, 1, none⟩ = some (.int .i64 py) := g2.cell 1
    have x4 : w1.cell? ⟨w.heap.size + 1 + 1 + 1, 0, none⟩ = some (.int .i64 qx) := g3.cell 0
    have x5 : w1.cell? ⟨w.heap.size + 1 + 1 + 1, 1, none⟩ = some (.int .i64 qy) := g3.cell 1
    have B1 := Lib.hid (B0.out.trans (hb1.mono (by omega)))
    have HB1 := Lib.hid hb1
    clear hb1 g0 g1 g2 g3
    go_wp2_with fail
    refine (CP.out _).mono ?_
    rintro e w2 ⟨rfl, hb2⟩
    have z1 := HB1.out.size
    rw [S0.out] at z1
    have hb3 : Below w1.heap.size w1 w2 := bvia (by go_grown) hb2
    obtain ⟨g0, g1, g2, g3⟩ := F0.out w2 (HB1.out.trans (hb3.mono z1))
    have y0 : w2.cell? ⟨w.heap.size, 0, none⟩ = some (.int .i64 a) := g0.cell 0
    have y1 : w2.cell? ⟨w.heap.size, 1, none⟩ = some (.int .i64 b) := g0.cell 1
    have y2 : w2.cell? ⟨w.heap.size, 2, none⟩ = some (.int .i64 c) := g0.cell 2
    have x0 : w2.cell? ⟨w.heap.size + 1, 0, none⟩ = some (.int .i64 ox) := g1.cell 0
    have x1 : w2.cell? ⟨w.heap.size + 1, 1, none⟩ = some (.int .i64 oy) := g1.cell 1
    have x2 : w2.cell? ⟨w.heap.size + 1 + 1, 0, none⟩ = some (.int .i64 px) := g2.cell 0
    have x3 : w2.cell? ⟨w.heap.size + 1 + 1, 1, none⟩ = some (.int .i64 py) := g2.cell 1
    have x4 : w2.cell? ⟨w.heap.size + 1 + 1 + 1, 0, none⟩ = some (.int .i64 qx) := g3.cell 0
    have x5 : w2.cell? ⟨w.heap.size + 1 + 1 + 1, 1, none⟩ = some (.int .i64 qy) := g3.cell 1
    have q0 := g0.lt
    have q1 := g1.lt
    have q2 := g2.lt
    have q3 := g3.lt
    have B2 := Lib.hid (bvia B1.out hb3)
    clear hb2 hb3 g0 g1 g2 g3 z1
    go_wp2
    have hxc := fun (x : Ext w2) => x.cell
    refine wp_region_ext (by kernel_rfl) (by kernel_rfl) ?_
    repeat (go_big_quiet_step ((first | (go_at_call_of 48 (Value.agg #[Value.int .i64 px, Value.int .i64 py]); exact ext_call (C1.out _)) | (go_at_call_of 48 (Value.agg #[Value.int .i64 qx, Value.int .i64 qy]); exact ext_call (C2.out _)) | (go_at_call 47; exact ext_call (C3.out _)))))
    refine wpQuiet_nil ?_
    intro w3 hw'
    have hb3 := ext_below hw'
    clear hw' hxc
    go_wp2
    go_ret2
    exact ⟨rfl, bvia B2.out hb3⟩
end Go.Proofs.Ytmghpaibdgkbfaa
/-
  Contracts of chapter 6: Square and Side: the program's and the document's.
-/
namespace Go.Proofs.Ytmghpaibdgkbfaa
open Go.RowKit
def boxW (w : World) : List (List Value × TypeId) → World
  | [] => w
  | c :: l => boxW (w.alloc (.cells c.1.toArray c.2)) l
theorem boxW_size : ∀ (l : List (List Value × TypeId)) (w : World), (boxW w l).heap.size = w.heap.size + l.length
  | [], _ => rfl
  | c :: l, w => by
    show (boxW _ l).heap.size = _
    rw [boxW_size l, World.size_alloc, List.length_cons]; omega
theorem boxW_below : ∀ (l : List (List Value × TypeId)) (w : World), Below w.heap.size w (boxW w l)
  | [], _ => Below.refl _ _
  | _ :: l, w => bvia ((Below.refl _ w).alloc (Nat.le_refl _) _) (boxW_below l _)
theorem box_has : ∀ (l : List (List Value × TypeId)) {w W : World}, Below (w.heap.size + l.length) (boxW w l) W → ∀ {i : Nat} {c : List Value × TypeId}, l[i]? = some c → Has W (w.heap.size + i) c.2 c.1
  | [], _, _, _, i, c, h => by simp at h
  | d :: l, w, W, hb, 0, c, h => by
    obtain rfl : d = c := by simpa using h
    have h1 : Has (w.alloc (.cells d.1.toArray d.2)) w.heap.size d.2 d.1 := Has.new rfl
    have h2 := h1.below (boxW_below l (w.alloc (.cells d.1.toArray d.2))) h1.lt
    exact h2.below hb (by rw [List.length_cons]; omega)
  | d :: l, w, W, hb, i + 1, c, h => by
    have hs : (w.alloc (.cells d.1.toArray d.2)).heap.size = w.heap.size + 1 := World.size_alloc _ _
    have := box_has l (w := w.alloc (.cells d.1.toArray d.2)) (W := W) (by rw [hs, show w.heap.size + 1 + l.length = w.heap.size + (d :: l).length by rw [List.length_cons]; omega]; exact hb) (i := i) (c := c) (by simpa using h)
    rw [hs, show w.heap.size + 1 + i = w.heap.size + (i + 1) by omega] at this
    exact this
abbrev cP (x y : Int) : List Value × TypeId := ([.int .i64 x, .int .i64 y], 25)
abbrev cL (a b c : Int) : List Value × TypeId := ([.int .i64 a, .int .i64 b, .int .i64 c], 23)
def sideR (px py qx qy rx ry : Int) : Int × Int := if okPs [(px, py), (qx, qy), (rx, ry)] = true then (sgn ((qx - px) * (ry - py) - (qy - py) * (rx - px)), 0) else (0, 2)
theorem squareC (a b c px py qx qy : Int) (w : World) : Calls Try.prog 13 #[vL a b c, vP px py, vP qx qy] w fun e w' => e = .returned (.tuple #[.int .i64 (dotR a b c px py qx qy qx qy).1, .int .i64 (dotR a b c px py qx qy qx qy).2]) ∧ Below w.heap.size w w' := by
  have CD := Lib.hid (fun W => dotC a b c px py qx qy qx qy W)
  generalize dotR a b c px py qx qy qx qy = D at *
  go_enter Try.func13, Try.ntmps13
  go_wp2_with fail
  refine (CD.out _).mono ?_
  rintro e w1 ⟨rfl, hb1⟩
  go_wp2
  go_ret2
  exact ⟨rfl, bvia (by go_grown) hb1⟩
set_option maxRecDepth 100000 in
set_option maxHeartbeats 600000 in
theorem sideC (px py qx qy rx ry : Int) (w : World) : Calls Try.prog 20 #[vP px py, vP qx qy, vP rx ry] w fun e w' => e = .returned (.tuple #[.int .i64 (sideR px py qx qy rx ry).1, .int .i64 (sideR px py qx qy rx ry).2]) ∧ Below w.heap.size w w' := by
  obtain ⟨D, hD⟩ : ∃ D, D = sideR px py qx qy rx ry := ⟨_, rfl⟩
  rw [← hD]
  have HD := Lib.hid hD
  clear hD
  have F0 := Lib.hid (fun (W : World) (hb : Below (w.heap.size + 3) (boxW w [cP px py, cP qx qy, cP rx ry]) W) => fun i d h => box_has [cP px py, cP qx qy, cP rx ry] hb (i := i) (c := d) h)
  have S0 : Hid ((boxW w [cP px py, cP qx qy, cP rx ry]).heap.size = w.heap.size + 3) := boxW_size [cP px py, cP qx qy, cP rx ry] w
  have B0 := Lib.hid (boxW_below [cP px py, cP qx qy, cP rx ry] w)
  have CP := Lib.hid (pointC (some ⟨(boxW w [cP px py, cP qx qy, cP rx ry]).heap.size, 0, none⟩) 3 3 [(px, py), (qx, qy), (rx, ry)] ((boxW w [cP px py, cP qx qy, cP rx ry]).alloc (.cells #[.int .i64 px, .int .i64 py, .int .i64 qx, .int .i64 qy, .int .i64 rx, .int .i64 ry] 25)) (rdP_new [(px, py), (qx, qy), (rx, ry)]) rfl (by decide))
  rw [S0.out] at CP
  cases hP : okPs [(px, py), (qx, qy), (rx, ry)] with
  | false =>
    rw [hP] at CP
    have hD2 : D = (0, 2) := HD.out.trans (if_neg (fun h => by rw [hP] at h; exact absurd h (by decide)))
    subst hD2
    clear hP HD
    go_enter Try.func20, Try.ntmps20
    go_wp2_with fail
    refine CP.out.mono ?_
    rintro e w2 ⟨rfl, hb2⟩
    go_wp2
    go_ret2
    exact ⟨rfl, bvia B0.out (bvia ((Below.refl _ (boxW w [cP px py, cP qx qy, cP rx ry])).alloc (Nat.le_refl _) _) hb2)⟩
  | true =>
    rw [hP] at CP
    have hD2 : D = (sgn ((qx - px) * (ry - py) - (qy - py) * (rx - px)), 0) := HD.out.trans (if_pos hP)
    have o1 := okPs_all hP (x := (px, py)) (by simp)
    have o2 := okPs_all hP (x := (qx, qy)) (by simp)
    have o3 := okPs_all hP (x := (rx, ry)) (by simp)
    simp only at o1 o2 o3
    have C1 := Lib.hid (fun W => toC px py qx qy W o1.1 o1.2 o2.1 o2.2)
    have C2 := Lib.hid (fun W => toC px py rx ry W o1.1 o1.2 o3.1 o3.2)
    have C3 := Lib.hid (fun W => crossC (qx - px) (qy - py) (rx - px) (ry - py) W ⟨by omega, by omega⟩ ⟨by omega, by omega⟩ ⟨by omega, by omega⟩ ⟨by omega, by omega⟩)
    have C4 : Hid (∀ W, Calls Try.prog 55 #[.int .i64 ((qx - px) * (ry - py) - (qy - py) * (rx - px)), .int .i64 0] W fun e w' => e = .returned (.int .i64 (sgn ((qx - px) * (ry - py) - (qy - py) * (rx - px)))) ∧ W = w') := fun W => (compare64 ((qx - px) * (ry - py) - (qy - py) * (rx - px)) 0 W)
    subst hD2
    generalize sgn ((qx - px) * (ry - py) - (qy - py) * (rx - px)) = r at *
    clear hP HD o1 o2 o3
    go_enter Try.func20, Try.ntmps20
    go_wp2_with fail
    refine CP.out.mono ?_
    rintro e w2 ⟨rfl, hb2⟩
    have hb3 := bvia ((Below.refl _ (boxW w [cP px py, cP qx qy, cP rx ry])).alloc (Nat.le_refl _) (.cells #[.int .i64 px, .int .i64 py, .int .i64 qx, .int .i64 qy, .int .i64 rx, .int .i64 ry] 25)) hb2
    have B2 := Lib.hid (bvia B0.out hb3)
    rw [S0.out] at hb3
    have g0 := F0.out w2 hb3 0 _ rfl
    have g1 := F0.out w2 hb3 1 _ rfl
    have g2 := F0.out w2 hb3 2 _ rfl
    have x0 : w2.cell? ⟨w.heap.size, 0, none⟩ = some (.int .i64 px) := g0.cell 0
    have x1 : w2.cell? ⟨w.heap.size, 1, none⟩ = some (.int .i64 py) := g0.cell 1
    have x2 : w2.cell? ⟨w.heap.size + 1, 0, none⟩ = some (.int .i64 qx) := g1.cell 0
    have x3 : w2.cell? ⟨w.heap.size + 1, 1, none⟩ = some (.int .i64 qy) := g1.cell 1
    have x4 : w2.cell? ⟨w.heap.size + 1 + 1, 0, none⟩ = some (.int .i64 rx) := g2.cell 0
    have x5 : w2.cell? ⟨w.heap.size + 1 + 1, 1, none⟩ = some (.int .i64 ry) := g2.cell 1
    have q0 : w.heap.size < w2.heap.size := g0.lt
    have q1 : w.heap.size + 1 < w2.heap.size := g1.lt
    have q2 : w.heap.size + 1 + 1 < w2.heap.size := g2.lt
    clear hb2 hb3 g0 g1 g2
    go_wp2
    have hxc := fun (x : Ext w2) => x.cell
    refine wp_region_ext (by kernel_rfl) (by kernel_rfl) ?_
    repeat (go_big_quiet_step ((first | (go_at_call_of 50 (Value.agg #[Value.int .i64 qx, Value.int .i64 qy]); exact ext_call (C1.out _)) | (go_at_call_of 50 (Value.agg #[Value.int .i64 rx, Value.int .i64 ry]); exact ext_call (C2.out _)) | (go_at_call 56; exact ext_call (C3.out _)) | (go_at_call 55; exact ext_same (C4.out _)))))
    refine wpQuiet_nil ?_
    intro w3 hw'
    have hb3 := ext_below hw'
    clear hw' hxc
    go_wp2
    go_ret2
    exact ⟨rfl, bvia B2.out hb3⟩
set_option maxRecDepth 100000 in
set_option maxHeartbeats 600000 in
theorem rsideC (px py qx qy rx ry : Int) (w : World) : Calls Try.prog 21 #[vP px py, vP qx qy, vP rx ry] w fun e w' => e = .returned (.tuple #[.int .i64 (sideR px py qx qy rx ry).1, .int .i64 (sideR px py qx qy rx ry).2]) ∧ Below w.heap.size w w' := by
  obtain ⟨D, hD⟩ : ∃ D, D = sideR px py qx qy rx ry := ⟨_, rfl⟩
  rw [← hD]
  have HD := Lib.hid hD
  clear hD
  have F0 := Lib.hid (fun (W : World) (hb : Below (w.heap.size + 3) (boxW w [cP px py, cP qx qy, cP rx ry]) W) => fun i d h => box_has [cP px py, cP qx qy, cP rx ry] hb (i := i) (c := d) h)
  have S0 : Hid ((boxW w [cP px py, cP qx qy, cP rx ry]).heap.size = w.heap.size + 3) := boxW_size [cP px py, cP qx qy, cP rx ry] w
  have B0 := Lib.hid (boxW_below [cP px py, cP qx qy, cP rx ry] w)
  have CP := Lib.hid (refPs (some ⟨(boxW w [cP px py, cP qx qy, cP rx ry]).heap.size, 0, none⟩) 3 3 [(px, py), (qx, qy), (rx, ry)] ((boxW w [cP px py, cP qx qy, cP rx ry]).alloc (.cells #[.int .i64 px, .int .i64 py, .int .i64 qx, .int .i64 qy, .int .i64 rx, .int .i64 ry] 25)) (rdP_new [(px, py), (qx, qy), (rx, ry)]) rfl (by decide))
  rw [S0.out] at CP
  cases hP : okPs [(px, py), (qx, qy), (rx, ry)] with
  | false =>
    rw [hP] at CP
    have hD2 : D = (0, 2) := HD.out.trans (if_neg (fun h => by rw [hP] at h; exact absurd h (by decide)))
    subst hD2
    clear hP HD
    go_enter Try.func21, Try.ntmps21
    go_wp2_with fail
    refine CP.out.mono ?_
    rintro e w2 ⟨rfl, hb2⟩
    go_wp2
    go_ret2
    exact ⟨rfl, bvia B0.out (bvia ((Below.refl _ (boxW w [cP px py, cP qx qy, cP rx ry])).alloc (Nat.le_refl _) _) hb2)⟩
  | true =>
    rw [hP] at CP
    have hD2 : D = (sgn ((qx - px) * (ry - py) - (qy - py) * (rx - px)), 0) := HD.out.trans (if_pos hP)
    have o1 := okPs_all hP (x := (px, py)) (by simp)
    have o2 := okPs_all hP (x := (qx, qy)) (by simp)
    have o3 := okPs_all hP (x := (rx, ry)) (by simp)
    simp only at o1 o2 o3
    have C1 := Lib.hid (fun W => stepC px py qx qy W o1.1 o1.2 o2.1 o2.2)
    have C2 := Lib.hid (fun W => stepC px py rx ry W o1.1 o1.2 o3.1 o3.2)
    have C3 := Lib.hid (fun W => rcrossC (qx - px) (qy - py) (rx - px) (ry - py) W ⟨by omega, by omega⟩ ⟨by omega, by omega⟩ ⟨by omega, by omega⟩ ⟨by omega, by omega⟩)
    have C4 : Hid (∀ W, Calls Try.prog 57 #[.int .i64 ((qx - px) * (ry - py) - (qy - py) * (rx - px))] W fun e w' => e = .returned (.int .i64 (sgn ((qx - px) * (ry - py) - (qy - py) * (rx - px)))) ∧ W = w') := fun W => (signC ((qx - px) * (ry - py) - (qy - py) * (rx - px)) W)
    subst hD2
    generalize sgn ((qx - px) * (ry - py) - (qy - py) * (rx - px)) = r at *
    clear hP HD o1 o2 o3
    go_enter Try.func21, Try.ntmps21
    go_wp2_with fail
    refine CP.out.mono ?_
    rintro e w2 ⟨rfl, hb2⟩
    have hb3 := bvia ((Below.refl _ (boxW w [cP px py, cP qx qy, cP rx ry])).alloc (Nat.le_refl _) (.cells #[.int .i64 px, .int .i64 py, .int .i64 qx, .int .i64 qy, .int .i64 rx, .int .i64 ry] 25)) hb2
    have B2 := Lib.hid (bvia B0.out hb3)
    rw [S0.out] at hb3
    have g0 := F0.out w2 hb3 0 _ rfl
    have g1 := F0.out w2 hb3 1 _ rfl
    have g2 := F0.out w2 hb3 2 _ rfl
    have x0 : w2.cell? ⟨w.heap.size, 0, none⟩ = some (.int .i64 px) := g0.cell 0
    have x1 : w2.cell? ⟨w.heap.size, 1, none⟩ = some (.int .i64 py) := g0.cell 1
    have x2 : w2.cell? ⟨w.heap.size + 1, 0, none⟩ = some (.int .i64 qx) := g1.cell 0
    have x3 : w2.cell? ⟨w.heap.size + 1, 1, none⟩ = some (.int .i64 qy) := g1.cell 1
    have x4 : w2.cell? ⟨w.heap.size + 1 + 1, 0, none⟩ = some (.int .i64 rx) := g2.cell 0
    have x5 : w2.cell? ⟨w.heap.size + 1 + 1, 1, none⟩ = some (.int .i64 ry) := g2.cell 1
    have q0 : w.heap.size < w2.heap.size := g0.lt
    have q1 : w.heap.size + 1 < w2.heap.size := g1.lt
    have q2 : w.heap.size + 1 + 1 < w2.heap.size := g2.lt
    clear hb2 hb3 g0 g1 g2
    go_wp2
    have hxc := fun (x : Ext w2) => x.cell
    refine wp_region_ext (by kernel_rfl) (by kernel_rfl) ?_
    repeat (go_big_quiet_step ((first | (go_at_call_of 48 (Value.agg #[Value.int .i64 qx, Value.int .i64 qy]); exact ext_call (C1.out _)) | (go_at_call_of 48 (Value.agg #[Value.int .i64 rx, Value.int .i64 ry]); exact ext_call (C2.out _)) | (go_at_call 58; exact ext_call (C3.out _)) | (go_at_call 57; exact ext_same (C4.out _)))))
    refine wpQuiet_nil ?_
    intro w3 hw'
    have hb3 := ext_below hw'
    clear hw' hxc
    go_wp2
    go_ret2
    exact ⟨rfl, bvia B2.out hb3⟩
theorem okPs_two (px py qx qy : Int) : okPs [(px, py), (qx, qy), (qx, qy)] = okPs [(px, py), (qx, qy)] := by
  unfold okPs
  simp only [List.all_cons, List.all_nil, Bool.and_true]
  cases okP px py <;> cases okP qx qy <;> rfl
set_option maxRecDepth 100000 in
set_option maxHeartbeats 600000 in
theorem rsquareC (a b c px py qx qy : Int) (w : World) : Calls Try.prog 14 #[vL a b c, vP px py, vP qx qy] w fun e w' => e = .returned (.tuple #[.int .i64 (dotR a b c px py qx qy qx qy).1, .int .i64 (dotR a b c px py qx qy qx qy).2]) ∧ Below w.heap.size w w' := by
  have CC := Lib.hid (fun W => rcheckC a b c W)
  obtain ⟨D, hD⟩ : ∃ D, D = dotR a b c px py qx qy qx qy := ⟨_, rfl⟩
  rw [← hD]
  unfold dotR at hD
  rw [okPs_two] at hD
  have HD := Lib.hid hD
  clear hD
  have F0 := Lib.hid (fun (W : World) (hb : Below (w.heap.size + 3) (boxW w [cL a b c, cP px py, cP qx qy]) W) => fun i d h => box_has [cL a b c, cP px py, cP qx qy] hb (i := i) (c := d) h)
  have S0 : Hid ((boxW w [cL a b c, cP px py, cP qx qy]).heap.size = w.heap.size + 3) := boxW_size [cL a b c, cP px py, cP qx qy] w
  have B0 := Lib.hid (boxW_below [cL a b c, cP px py, cP qx qy] w)
  by_cases hL : okL a b c = true
  case neg =>
    have hE : errL a b c = 2 := if_neg hL
    rw [hE] at CC
    have hD2 : D = (0, 2) := HD.out.trans (if_neg (fun h => hL h.1))
    subst hD2
    clear hE hL HD
    go_enter Try.func14, Try.ntmps14
    go_wp2_with fail
    refine (CC.out _).mono ?_
    rintro e w1 ⟨rfl, hb1⟩
    go_wp2
    go_ret2
    exact ⟨rfl, bvia B0.out hb1⟩
  have hE : errL a b c = 0 := if_pos hL
  rw [hE] at CC
  obtain ⟨l1, l2, l3, l4, l5, l6, _⟩ := (okL_iff a b c).1 hL
  clear hE
  have CP := Lib.hid (fun (W : World) => refPs (some ⟨W.heap.size, 0, none⟩) 2 2 [(px, py), (qx, qy)] (W.alloc (.cells #[.int .i64 px, .int .i64 py, .int .i64 qx, .int .i64 qy] 25)) (rdP_new [(px, py), (qx, qy)]) rfl (by decide))
  cases hP : okPs [(px, py), (qx, qy)] with
  | false =>
    rw [hP] at CP
    have hD2 : D = (0, 2) := HD.out.trans (if_neg (fun h => by rw [hP] at h; exact absurd h.2 (by decide)))
    subst hD2
    clear hP HD hL
    go_enter Try.func14, Try.ntmps14
    go_wp2_with fail
    refine (CC.out _).mono ?_
    rintro e w1 ⟨rfl, hb1⟩
    have B1 := Lib.hid (bvia B0.out hb1)
    have hb1' : Below (w.heap.size + 3) (boxW w [cL a b c, cP px py, cP qx qy]) w1 := by rw [← S0.out]; exact hb1
    have g1 := F0.out w1 hb1' 1 _ rfl
    have g2 := F0.out w1 hb1' 2 _ rfl
    have x0 : w1.cell? ⟨w.heap.size + 1, 0, none⟩ = some (.int .i64 px) := g1.cell 0
    have x1 : w1.cell? ⟨w.heap.size + 1, 1, none⟩ = some (.int .i64 py) := g1.cell 1
    have x2 : w1.cell? ⟨w.heap.size + 1 + 1, 0, none⟩ = some (.int .i64 qx) := g2.cell 0
    have x3 : w1.cell? ⟨w.heap.size + 1 + 1, 1, none⟩ = some (.int .i64 qy) := g2.cell 1
    clear hb1 hb1' g1 g2
    go_wp2_with fail
    refine (CP.out _).mono ?_
    rintro e w2 ⟨rfl, hb2⟩
    go_wp2
    go_ret2
    exact ⟨rfl, bvia B1.out (bvia (by go_grown) hb2)⟩
  | true =>
    rw [hP] at CP
    have hD2 : D = (prodL a b c (qx - px) (qy - py) (qx - px) (qy - py), 0) := HD.out.trans (if_pos ⟨hL, hP⟩)
    have o1 := okPs_all hP (x := (px, py)) (by simp)
    have o2 := okPs_all hP (x := (qx, qy)) (by simp)
    simp only at o1 o2
    have C1 := Lib.hid (fun W => stepC px py qx qy W o1.1 o1.2 o2.1 o2.2)
    have C3 := Lib.hid (fun W => rproductC a b c (qx - px) (qy - py) (qx - px) (qy - py) W ⟨by omega, by omega⟩ ⟨by omega, by omega⟩ ⟨by omega, by omega⟩ ⟨by omega, by omega⟩ ⟨by omega, by omega⟩ ⟨by omega, by omega⟩ ⟨by omega, by omega⟩)
    subst hD2
    generalize prodL a b c (qx - px) (qy - py) (qx - px) (qy - py) = r at *
    clear hP HD hL o1 o2
    go_enter Try.func14, Try.ntmps14
    go_wp2_with fail
    refine (CC.out _).mono ?_
    rintro e w1 ⟨rfl, hb1⟩
    have B1 := Lib.hid (bvia B0.out hb1)
    have hb1' : Below (w.heap.size + 3) (boxW w [cL a b c, cP px py, cP qx qy]) w1 := by rw [← S0.out]; exact hb1
    have HB1 := Lib.hid hb1'
    have g1 := F0.out w1 hb1' 1 _ rfl
    have g2 := F0.out w1 hb1' 2 _ rfl
    have x0 : w1.cell? ⟨w.heap.size + 1, 0, none⟩ = some (.int .i64 px) := g1.cell 0
    have x1 : w1.cell? ⟨w.heap.size + 1, 1, none⟩ = some (.int .i64 py) := g1.cell 1
    have x2 : w1.cell? ⟨w.heap.size + 1 + 1, 0, none⟩ = some (.int .i64 qx) := g2.cell 0
    have x3 : w1.cell? ⟨w.heap.size + 1 + 1, 1, none⟩ = some (.int .i64 qy) := g2.cell 1
    clear hb1 hb1' g1 g2
    go_wp2_with fail
    refine (CP.out _).mono ?_
    rintro e w2 ⟨rfl, hb2⟩
    have z1 := HB1.out.size
    rw [S0.out] at z1
    have hb3 : Below w1.heap.size w1 w2 := bvia (by go_grown) hb2
    have B2 := Lib.hid (bvia B1.out hb3)
    have hb4 := HB1.out.trans (hb3.mono z1)
    have g0 := F0.out w2 hb4 0 _ rfl
    have g1 := F0.out w2 hb4 1 _ rfl
    have g2 := F0.out w2 hb4 2 _ rfl
    have y0 : w2.cell? ⟨w.heap.size, 0, none⟩ = some (.int .i64 a) := g0.cell 0
    have y1 : w2.cell? ⟨w.heap.size, 1, none⟩ = some (.int .i64 b) := g0.cell 1
    have y2 : w2.cell? ⟨w.heap.size, 2, none⟩ = some (.int .i64 c) := g0.cell 2
    have x0 : w2.cell? ⟨w.heap.size + 1, 0, none⟩ = some (.int .i64 px) := g1.cell 0
    have x1 : w2.cell? ⟨w.heap.size + 1, 1, none⟩ = some (.int .i64 py) := g1.cell 1
    have x2 : w2.cell? ⟨w.heap.size + 1 + 1, 0, none⟩ = some (.int .i64 qx) := g2.cell 0
    have x3 : w2.cell? ⟨w.heap.size + 1 + 1, 1, none⟩ = some (.int .i64 qy) := g2.cell 1
    have q0 : w.heap.size < w2.heap.size := g0.lt
    have q1 : w.heap.size + 1 < w2.heap.size := g1.lt
    have q2 : w.heap.size + 1 + 1 < w2.heap.size := g2.lt
    clear hb2 hb3 hb4 g0 g1 g2 z1
    go_wp2
    have hxc := fun (x : Ext w2) => x.cell
    refine wp_region_ext (by kernel_rfl) (by kernel_rfl) ?_
    repeat (go_big_quiet_step ((first | (go_at_call 48; exact ext_call (C1.out _)) | (go_at_call 47; exact ext_call (C3.out _)))))
    refine wpQuiet_nil ?_
    intro w3 hw'
    have hb3 := ext_below hw'
    clear hw' hxc
    go_wp2
    go_ret2
    exact ⟨rfl, bvia B2.out hb3⟩
end Go.Proofs.Ytmghpaibdgkbfaa
