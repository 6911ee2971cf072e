/-
  Contract of cloth's sets: first.
-/
import Derived.Test.YtpljaoagiaijiaaLkp
import Derived.Test.YtpljaoagiaijiaaSwap
namespace Go.Proofs.Ytpljaoagiaijiaa
open Go.RowKit
set_option maxRecDepth 100000 in
set_option maxHeartbeats 1000000 in
theorem first54 (g T n : Nat) (s : List Int) (w : World) (hh : Has w g 93 (s.map vInt)) (hP : PInv T s) (hT : T ≤ 48) (hn : n < T) :
    Calls Try.prog 54 #[.pointer (some ⟨g, 0, none⟩), .int .i64 (n : Int)] w fun e w' => e = .returned (.int .i64 (rt s n : Nat)) ∧ w = w' := by
  have HH := Lib.hid hh
  have HP := Lib.hid hP
  have hg := hh.lt
  clear hh hP
  go_enter Try.func54, Try.ntmps54
  go_wp2
  go_loop [1] (fun i => ∃ k : Nat, k < T ∧ i = .int .i64 (k : Int) ∧ Hid (rt s k = rt s n)) (fun i => (intOf i).toNat)
  case atStart => exact ⟨n, hn, rfl, Lib.hid rfl⟩
  case round =>
    obtain ⟨k, hk, rfl, HR⟩ := hrel
    obtain ⟨v, hv, hle⟩ := HP.out k hk
    have hst := rt_step HP.out hk hv
    have c0 : w.cell? ⟨g, k, none⟩ = some (.int .i64 (v : Int)) := (HH.out.cell k).trans (by rw [List.getElem?_map, hv]; rfl)
    have k48 : (k : Int) < 48 := by omega
    have k48' : k < 48 := by omega
    by_cases e : v = k
    · have d1 : ((v : Int) != (k : Int)) = false := by rw [e]; simp
      rw [if_pos e] at hst
      have HS := Lib.hid hst
      clear hst hv e
      go_wp2
      go_ret
      exact ⟨ret_int (by rw [← HR.out, HS.out]), rfl⟩
    · have d1 : ((v : Int) != (k : Int)) = true := by simp; omega
      rw [if_neg e] at hst
      have HS := Lib.hid hst
      have hlt : v < k := by omega
      clear hst hv e
      go_wp2
      go_round
      case rel => exact ⟨v, by omega, rfl, Lib.hid (by rw [← HR.out, HS.out])⟩
      case measure => simp [intOf]; omega
end Go.Proofs.Ytpljaoagiaijiaa
