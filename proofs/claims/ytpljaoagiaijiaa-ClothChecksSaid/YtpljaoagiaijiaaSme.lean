/-
  Contract of chapter 17: the document's Same, of two cloths that are equal.
-/
import Derived.Test.YtpljaoagiaijiaaChk
namespace Go.Proofs.Ytpljaoagiaijiaa
open Go.RowKit
theorem eqCr (a b c d : Int) (w : World) : (Op.equalIn 10000 70 (.agg #[.int .i64 a, .int .i64 b, .int .i64 c, .int .i64 d]) (.agg #[.int .i64 a, .int .i64 b, .int .i64 c, .int .i64 d])).run Try.prog w = .ok true w := by
  have u3 := Try.underlying3
  have a3 := Try.isAgg3
  have z3 := Try.sizeOf3
  have hS : Try.prog.underlying 70 = some (.struct (Try.prog.fieldsOf 70)) := by kernel_rfl
  have hp : Try.prog.stoodInHeld 70 = false := by kernel_rfl
  rw [show (10000 : Nat) = 9999 + 1 from rfl, run_equalIn_agg w 9999 70 _ _ hS hp]
  simp only [Program.fieldsOf, Try.underlying70]
  go_simp
theorem eqPn (a b c d : Int) (w : World) : (Op.equalIn 10000 72 (.agg #[.int .i64 a, .int .i64 b, .int .i64 c, .int .i64 d]) (.agg #[.int .i64 a, .int .i64 b, .int .i64 c, .int .i64 d])).run Try.prog w = .ok true w := by
  have u3 := Try.underlying3
  have a3 := Try.isAgg3
  have z3 := Try.sizeOf3
  have hS : Try.prog.underlying 72 = some (.struct (Try.prog.fieldsOf 72)) := by kernel_rfl
  have hp : Try.prog.stoodInHeld 72 = false := by kernel_rfl
  rw [show (10000 : Nat) = 9999 + 1 from rfl, run_equalIn_agg w 9999 72 _ _ hS hp]
  simp only [Program.fieldsOf, Try.underlying72]
  go_simp
set_option maxRecDepth 100000 in
set_option maxHeartbeats 4000000 in
theorem same13 (t : Int) (A B A' B' : Option Addr) (n c m d c' d' : Nat) (xs ps : List Q4) (w : World) (hn : n ≤ 9223372036854775807) (hm : m ≤ 9223372036854775807) (hx : RdQ w w.heap.size A xs) (hx2 : RdQ w w.heap.size A' xs) (hp : RdQ w w.heap.size B ps) (hp2 : RdQ w w.heap.size B' ps)
    (hl : xs.length = n) (hl' : ps.length = m) :
    Calls Try.prog 13 #[vCloth t A n c B m d, vCloth t A' n c' B' m d'] w fun e w' => e = .returned (.bool true) ∧ Below w.heap.size w w' := by
  have B1 : Below w.heap.size w ((w.alloc (.cells #[.int .i64 t, .slice A n c, .slice B m d] 30)).alloc (.cells #[.int .i64 t, .slice A' n c', .slice B' m d'] 30)) := by go_grown
  have HX := Lib.hid (hx.up B1); have HX2 := Lib.hid (hx2.up B1); have HP := Lib.hid (hp.up B1); have HP2 := Lib.hid (hp2.up B1)
  have HL := Lib.hid hl; have HL2 := Lib.hid hl'
  have HA := Lib.hid (show Has ((w.alloc (.cells #[.int .i64 t, .slice A n c, .slice B m d] 30)).alloc (.cells #[.int .i64 t, .slice A' n c', .slice B' m d'] 30)) w.heap.size 30 [.int .i64 t, .slice A n c, .slice B m d] from (Has.new rfl).alloc _)
  have HB := Lib.hid (show Has ((w.alloc (.cells #[.int .i64 t, .slice A n c, .slice B m d] 30)).alloc (.cells #[.int .i64 t, .slice A' n c', .slice B' m d'] 30)) (w.heap.size + 1) 30 [.int .i64 t, .slice A' n c', .slice B' m d'] from Has.new2 rfl)
  clear hx hx2 hp hp2 hl hl'
  go_enter Try.func13, Try.ntmps13
  go_wp2
  obtain ⟨g', hg'⟩ : ∃ g', g' = w.heap.size + 1 := ⟨_, rfl⟩
  obtain ⟨g, hg⟩ : ∃ g, g = w.heap.size := ⟨_, rfl⟩
  generalize hW : ((w.alloc (.cells #[.int .i64 t, .slice A n c, .slice B m d] 30)).alloc (.cells #[.int .i64 t, .slice A' n c', .slice B' m d'] 30)) = w2 at *
  rw [← hg'] at HB ⊢
  rw [← hg] at HA ⊢
  clear hW hg hg'
  go_loopw [5] (fun i wr => ∃ j : Nat, j ≤ n ∧ i = .int .i64 (j : Int) ∧ Below w2.heap.size w2 wr) (fun i _ => n - (intOf i).toNat)
  case atStart => exact ⟨0, Nat.zero_le _, rfl, Below.refl _ _⟩
  case round =>
    obtain ⟨j, hj, rfl, hb⟩ := hrel
    obtain ⟨wo, rfl⟩ : ∃ wo : World, wo = wr := ⟨_, rfl⟩
    have hz := hb.size
    have a1 := (hb.cell (p := ⟨g, 1, none⟩) HA.out.lt).trans (HA.out.cell 1)
    have b1 := (hb.cell (p := ⟨g', 1, none⟩) HB.out.lt).trans (HB.out.cell 1)
    have q1 : g < wo.heap.size := Nat.lt_of_lt_of_le HA.out.lt hz
    have q2 : g' < wo.heap.size := Nat.lt_of_lt_of_le HB.out.lt hz
    replace a1 : wo.cell? ⟨g, 1, none⟩ = some (.slice A n c) := a1
    replace b1 : wo.cell? ⟨g', 1, none⟩ = some (.slice A' n c') := b1
    by_cases hlt : j < n
    · obtain ⟨x, hx⟩ := get_of_lt (l := xs) (k := j) (by rw [HL.out]; exact hlt)
      obtain ⟨bu, ou, rfl, hbu, u0, u1, u2, u3⟩ := (HX.out.up hb) _ x hx
      obtain ⟨bv, ov, rfl, hbv, v0, v1, v2, v3⟩ := (HX2.out.up hb) _ x hx
      have jn : (j : Int) < (n : Int) := by omega
      have EQ := fun W => eqCr x.a x.b x.c x.d W
      clear hx
      go_wp2
      have hxc := fun (x : Ext wo) => x.cell
      refine wp_region_ext (by kernel_rfl) (by kernel_rfl) ?_
      repeat (go_big_quiet_step (fail))
      refine wpQuiet_nil ?_
      intro w6 hw'
      have hb6 := ext_below hw'; clear hw' hxc
      have B6 := hb.trans (hb6.mono hz)
      clear hb6
      go_wp2
      go_roundw
      case rel => exact ⟨j + 1, by omega, by go_num, B6⟩
      case measure => first | (simp [intOf]; done) | (simp [intOf]; omega)
    · obtain rfl : n = j := by omega
      go_wp2
      replace HA := Lib.hid (HA.out.below hb HA.out.lt)
      replace HB := Lib.hid (HB.out.below hb HB.out.lt)
      replace HP := Lib.hid (HP.out.up hb)
      replace HP2 := Lib.hid (HP2.out.up hb)
      have B3 := bvia B1 hb
      clear hb HX HX2 B1 a1 b1 q1 q2 hz
      obtain ⟨w3, rfl⟩ : ∃ w3 : World, w3 = wo := ⟨_, rfl⟩
      go_loopw [6] (fun i wr => ∃ j : Nat, j ≤ m ∧ i = .int .i64 (j : Int) ∧ Below w3.heap.size w3 wr) (fun i _ => m - (intOf i).toNat)
      case atStart => exact ⟨0, Nat.zero_le _, rfl, Below.refl _ _⟩
      case round =>
        obtain ⟨j, hj, rfl, hb⟩ := hrel
        obtain ⟨wo, rfl⟩ : ∃ wo : World, wo = wr := ⟨_, rfl⟩
        have hz := hb.size
        have a1 := (hb.cell (p := ⟨g, 2, none⟩) HA.out.lt).trans (HA.out.cell 2)
        have b1 := (hb.cell (p := ⟨g', 2, none⟩) HB.out.lt).trans (HB.out.cell 2)
        have q1 : g < wo.heap.size := Nat.lt_of_lt_of_le HA.out.lt hz
        have q2 : g' < wo.heap.size := Nat.lt_of_lt_of_le HB.out.lt hz
        replace a1 : wo.cell? ⟨g, 2, none⟩ = some (.slice B m d) := a1
        replace b1 : wo.cell? ⟨g', 2, none⟩ = some (.slice B' m d') := b1
        by_cases hlt : j < m
        · obtain ⟨x, hx⟩ := get_of_lt (l := ps) (k := j) (by rw [HL2.out]; exact hlt)
          obtain ⟨bu, ou, rfl, hbu, u0, u1, u2, u3⟩ := (HP.out.up hb) _ x hx
          obtain ⟨bv, ov, rfl, hbv, v0, v1, v2, v3⟩ := (HP2.out.up hb) _ x hx
          have jn : (j : Int) < (m : Int) := by omega
          have EQ := fun W => eqPn x.a x.b x.c x.d W
          clear hx
          go_wp2
          have hxc := fun (x : Ext wo) => x.cell
          refine wp_region_ext (by kernel_rfl) (by kernel_rfl) ?_
          repeat (go_big_quiet_step (fail))
          refine wpQuiet_nil ?_
          intro w6 hw'
          have hb6 := ext_below hw'; clear hw' hxc
          have B6 := hb.trans (hb6.mono hz)
          clear hb6
          go_wp2
          go_roundw
          case rel => exact ⟨j + 1, by omega, by go_num, B6⟩
          case measure => first | (simp [intOf]; done) | (simp [intOf]; omega)
        · obtain rfl : m = j := by omega
          go_wp2
          go_ret
          exact ⟨rfl, bvia B3 hb⟩
end Go.Proofs.Ytpljaoagiaijiaa
