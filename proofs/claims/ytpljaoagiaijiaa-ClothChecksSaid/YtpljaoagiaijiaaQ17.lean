/-
  Contracts of torchonref17: numbers.
-/
import Derived.Test.YtpljaoagiaijiaaQ
namespace Go.Proofs.Ytpljaoagiaijiaa
open Go.RowKit
set_option maxRecDepth 100000 in
set_option maxHeartbeats 2000000 in
theorem numbers17 (t : Int) (A B : Option Addr) (n c m d : Nat) (xs ps : List Q4) (w : World) (ht : t ≤ 48) (hn : n ≤ 20000) (hm : m ≤ 6400) (hx : RdQ w w.heap.size A xs) (hp : RdQ w w.heap.size B ps) (hl : xs.length = n) (hl' : ps.length = m) (ht0 : -9223372036854775808 ≤ t) :
    Calls Try.prog 58 #[vCloth t A n c B m d] w fun e w' => e = .returned (.bool (numsOk t xs ps)) ∧ Below w.heap.size w w' := by
  have HX := Lib.hid hx; clear hx
  have HP := Lib.hid hp; clear hp
  have HL := Lib.hid hl; clear hl
  have HL' := Lib.hid hl'; clear hl'
  by_cases h2 : t < 2
  · have e : numsOk t xs ps = false := by unfold numsOk; rw [decide_eq_false (by omega)]; rfl
    rw [e]; clear e
    go_enter Try.func58, Try.ntmps58
    go_wp2
    go_ret
    exact ⟨rfl, by go_grown⟩
  have h2' : 2 ≤ t := by omega
  have i1 : IntKind.i64.wrap (t - 2) = t - 2 := IntWalk.i64_in _ (by omega)
  go_enter Try.func58, Try.ntmps58
  go_wp2
  go_loopw [3] (fun i wr => ∃ k : Nat, k ≤ n ∧ i = .int .i64 (k : Int) ∧ (xs.take k).all (okC t) = true ∧ Below w.heap.size w wr ∧ Has wr w.heap.size 30 [.int .i64 t, .slice A n c, .slice B m d]) (fun i _ => n - (intOf i).toNat)
  case atStart => exact ⟨0, Nat.zero_le _, rfl, rfl, by go_grown, Has.new rfl⟩
  case round =>
    obtain ⟨k, hk, rfl, hall, hb, hh⟩ := hrel
    obtain ⟨wo, rfl⟩ : ∃ wo : World, wo = wr := ⟨_, rfl⟩
    have HA := Lib.hid hall; clear hall
    have HH := Lib.hid hh
    have a0 : wo.cell? ⟨w.heap.size, 0, none⟩ = some (.int .i64 t) := hh.cell 0
    have a1 : wo.cell? ⟨w.heap.size, 1, none⟩ = some (.slice A n c) := hh.cell 1
    have a2 : wo.cell? ⟨w.heap.size, 2, none⟩ = some (.slice B m d) := hh.cell 2
    have q := hh.lt
    clear hh
    by_cases hlt : k < n
    · obtain ⟨x, hx⟩ := get_of_lt (l := xs) (k := k) (by rw [HL.out]; exact hlt)
      obtain ⟨ba, o, rfl, hba, c0, c1, c2, c3⟩ := (HX.out.below hb hb.size) _ x hx
      have HXk := Lib.hid hx; clear hx
      go_wp2
      all_goals first
        | (go_ret
           refine ⟨ret_bool (Eq.symm ?_), hb.trans (by go_grown)⟩
           unfold numsOk
           rw [all_false (p := okC t) HXk.out (by unfold okC; simp; omega)]
           simp)
        | skip
      go_roundw
      case rel =>
        refine ⟨k + 1, by omega, by go_num, ?_, hb.alloc (by omega) _, HH.out.alloc _⟩
        rw [all_step HXk.out, HA.out]
        unfold okC; simp; omega
      case measure => first | (simp [intOf]; done) | (simp [intOf]; omega)
    · obtain rfl : k = n := by omega
      have HA' : Hid (xs.all (okC t) = true) := by
        have := HA.out
        rw [List.take_of_length_le (by rw [HL.out]; exact Nat.le_refl _)] at this; exact this
      clear HA HX HL
      go_wp2
      go_loopw [5] (fun i wr => ∃ j : Nat, j ≤ m ∧ i = .int .i64 (j : Int) ∧ (ps.take j).all (okP t) = true ∧ Below w.heap.size w wr ∧ Has wr w.heap.size 30 [.int .i64 t, .slice A k c, .slice B m d]) (fun i _ => m - (intOf i).toNat)
      case atStart => exact ⟨0, Nat.zero_le _, rfl, rfl, hb, HH.out⟩
      case round =>
        clear hb a0 a1 a2 q HH
        obtain ⟨j, hj, rfl, hall, hb, hh⟩ := hrel
        obtain ⟨wo, rfl⟩ : ∃ wo : World, wo = wr := ⟨_, rfl⟩
        have HA := Lib.hid hall; clear hall
        have HH := Lib.hid hh
        have a0 : wo.cell? ⟨w.heap.size, 0, none⟩ = some (.int .i64 t) := hh.cell 0
        have a1 : wo.cell? ⟨w.heap.size, 1, none⟩ = some (.slice A k c) := hh.cell 1
        have a2 : wo.cell? ⟨w.heap.size, 2, none⟩ = some (.slice B m d) := hh.cell 2
        have q := hh.lt
        clear hh
        by_cases hlt : j < m
        · obtain ⟨x, hx⟩ := get_of_lt (l := ps) (k := j) (by rw [HL'.out]; exact hlt)
          obtain ⟨ba, o, rfl, hba, c0, c1, c2, c3⟩ := (HP.out.below hb hb.size) _ x hx
          have HXk := Lib.hid hx; clear hx
          by_cases hcd : x.c = x.d
          · have hcd' : (x.c == x.d) = true := by simpa using hcd
            have HB : Hid (okP t x = false) := by
              show okP t x = false
              unfold okP; rw [hcd']; simp
            clear hcd
            go_wp2
            all_goals go_ret
            all_goals refine ⟨ret_bool (Eq.symm ?_), hb.trans (by go_grown)⟩
            all_goals unfold numsOk
            all_goals rw [all_false (p := okP t) HXk.out HB.out]
            all_goals simp
          · have hcd' : (x.c == x.d) = false := by simpa using hcd
            have HCD := Lib.hid hcd'
            clear hcd
            go_wp2
            all_goals first
              | (go_ret
                 refine ⟨ret_bool (Eq.symm ?_), hb.trans (by go_grown)⟩
                 unfold numsOk
                 rw [all_false (p := okP t) HXk.out (by unfold okP; simp; omega)]
                 simp)
              | skip
            go_roundw
            case rel =>
              refine ⟨j + 1, by omega, by go_num, ?_, hb.alloc (by omega) _, HH.out.alloc _⟩
              rw [all_step HXk.out, HA.out]
              unfold okP; rw [HCD.out]; simp; omega
            case measure => first | (simp [intOf]; done) | (simp [intOf]; omega)
        · obtain rfl : j = m := by omega
          have HB' : Hid (ps.all (okP t) = true) := by
            have := HA.out
            rw [List.take_of_length_le (by rw [HL'.out]; exact Nat.le_refl _)] at this; exact this
          have HF : Hid (numsOk t xs ps = true) := by
            show numsOk t xs ps = true
            unfold numsOk
            rw [HA'.out, HB'.out, decide_eq_true h2']; rfl
          clear HA HB' HA' 
          go_wp2
          go_ret
          exact ⟨ret_bool HF.out.symm, hb⟩
end Go.Proofs.Ytpljaoagiaijiaa
