/-
  Contracts of torchonref03: long, many, Moves (of a valid word).
-/
import Derived.Test.Ytpljaoagiaijiaa3c
import Derived.Test.YtpljaoagiaijiaaMki
import Derived.WalkSpells
namespace Go.Proofs.Ytpljaoagiaijiaa
open Go.RowKit
/-- a letter without T and t -/
def longL (c : UInt8) : List UInt8 := if c = 84 then [76, 82] else if c = 116 then [108, 114] else [c]
def longTo (s : ByteArray) (k : Nat) : List UInt8 := (s.data.toList.take k).flatMap longL
theorem longTo_succ (s : ByteArray) (k : Nat) (h : k < s.size) : longTo s (k + 1) = longTo s k ++ longL s[k] := by
  unfold longTo
  rw [List.take_add_one, str_get s k h]
  simp
theorem longL_len (c : UInt8) : (longL c).length ≤ 2 := by
  unfold longL
  by_cases h1 : c = 84
  · rw [if_pos h1]; exact Nat.le_refl _
  · by_cases h2 : c = 116
    · rw [if_neg h1, if_pos h2]; exact Nat.le_refl _
    · rw [if_neg h1, if_neg h2]; exact Nat.le_succ _
theorem longTo_len (s : ByteArray) : ∀ k, (longTo s k).length ≤ 2 * k
  | 0 => by simp [longTo]
  | k + 1 => by
    have ih := longTo_len s k
    by_cases h : k < s.size
    · rw [longTo_succ s k h, List.length_append]
      have := longL_len s[k]
      omega
    · have e : longTo s (k + 1) = longTo s k := by
        unfold longTo
        rw [List.take_of_length_le (by rw [str_len]; omega), List.take_of_length_le (by rw [str_len]; omega)]
      rw [e]; omega
theorem longTo_all (s : ByteArray) (k : Nat) (h : s.size ≤ k) : longTo s k = s.data.toList.flatMap longL := by
  unfold longTo; rw [List.take_of_length_le (by rw [str_len]; exact h)]
theorem app_lit (l m : List UInt8) : (⟨l.toArray⟩ : ByteArray) ++ ⟨m.toArray⟩ = ⟨(l ++ m).toArray⟩ := by
  apply ba_ext
  rw [ByteArray.data_append, Array.toList_append]
set_option maxRecDepth 100000 in
set_option maxHeartbeats 1000000 in
theorem long46 (s : ByteArray) (w : World) (hs : s.size ≤ 16) :
    Calls Try.prog 46 #[.string s] w fun e w' => e = .returned (.string ⟨(s.data.toList.flatMap longL).toArray⟩) ∧ w = w' := by
  go_enter Try.func46, Try.ntmps46
  go_wp2
  go_loop [3, 4] (fun u i => ∃ k : Nat, k ≤ s.size ∧ i = .int .i64 k ∧ u = .string ⟨(longTo s k).toArray⟩) (fun _ i => s.size - (intOf i).toNat)
  case atStart => exact ⟨0, Nat.zero_le _, rfl, rfl⟩
  case round =>
    obtain ⟨k, hk, rfl, rfl⟩ := hrel
    by_cases hlt : k < s.size
    · have hcl := longTo_len s k
      have HS := Lib.hid (longTo_succ s k hlt)
      have SL := fun W => slice1 s k hlt W
      have i3 : IntKind.i64.wrap ((k : Int) + 1) = (k : Int) + 1 := IntWalk.i64_in _ (by omega)
      have kn : (k : Int) < (s.size : Int) := by omega
      by_cases h1 : s[k] = 84
      · have d1 : ((s[k].toNat : Int) == 84) = true := by rw [h1]; rfl
        go_wp2
        go_round
        case rel => exact ⟨k + 1, by omega, by go_num, by rw [HS.out, h1]; exact congrArg Value.string (app_lit _ [76, 82])⟩
        case measure => simp [intOf]; omega
      · have d1 : ((s[k].toNat : Int) == 84) = false := by
          rw [beq_eq_false_iff_ne]
          intro hh
          exact h1 (UInt8.toNat_inj.1 (show s[k].toNat = 84 by omega))
        by_cases h2 : s[k] = 116
        · have d2 : ((s[k].toNat : Int) == 116) = true := by rw [h2]; rfl
          go_wp2
          go_round
          case rel => exact ⟨k + 1, by omega, by go_num, by rw [HS.out, h2]; exact congrArg Value.string (app_lit _ [108, 114])⟩
          case measure => simp [intOf]; omega
        · have d2 : ((s[k].toNat : Int) == 116) = false := by
            rw [beq_eq_false_iff_ne]
            intro hh
            exact h2 (UInt8.toNat_inj.1 (show s[k].toNat = 116 by omega))
          have HL : Hid (longL s[k] = [s[k]]) := by show _ = _; unfold longL; rw [if_neg h1, if_neg h2]
          clear h1 h2
          go_wp2
          go_round
          case rel => exact ⟨k + 1, by omega, by go_num, by rw [HS.out, HL.out, app_one _ _ _ hlt]⟩
          case measure => simp [intOf]; omega
    · obtain rfl : s.size = k := by omega
      go_wp2
      go_ret
      exact ⟨ret_str (by rw [longTo_all s _ (Nat.le_refl _)]), rfl⟩
/-- how often a byte is among the first k of a string -/
def cntTo (s : ByteArray) (c : UInt8) (k : Nat) : Nat := (s.data.toList.take k).count c
theorem cntTo_succ (s : ByteArray) (c : UInt8) (k : Nat) (h : k < s.size) : cntTo s c (k + 1) = cntTo s c k + if s[k] = c then 1 else 0 := by
  unfold cntTo
  rw [List.take_add_one, str_get s k h, List.count_append]
  simp [List.count_cons]
theorem cntTo_le (s : ByteArray) (c : UInt8) (k : Nat) : cntTo s c k ≤ k := by
  unfold cntTo
  exact Nat.le_trans List.count_le_length (by rw [List.length_take]; omega)
theorem cntTo_all (s : ByteArray) (c : UInt8) (k : Nat) (h : s.size ≤ k) : cntTo s c k = s.data.toList.count c := by
  unfold cntTo; rw [List.take_of_length_le (by rw [str_len]; exact h)]
set_option maxRecDepth 100000 in
set_option maxHeartbeats 1000000 in
theorem many47 (s : ByteArray) (c : UInt8) (w : World) (hs : s.size ≤ 1000) :
    Calls Try.prog 47 #[.string s, .int .u8 c.toNat] w fun e w' => e = .returned (.int .i64 (s.data.toList.count c : Nat)) ∧ w = w' := by
  go_enter Try.func47, Try.ntmps47
  go_wp2
  go_loop [5, 6] (fun u i => ∃ k : Nat, k ≤ s.size ∧ i = .int .i64 k ∧ u = .int .i64 (cntTo s c k : Nat)) (fun _ i => s.size - (intOf i).toNat)
  case atStart => exact ⟨0, Nat.zero_le _, rfl, rfl⟩
  case round =>
    obtain ⟨k, hk, rfl, rfl⟩ := hrel
    by_cases hlt : k < s.size
    · have hcl := cntTo_le s c k
      have HS := Lib.hid (cntTo_succ s c k hlt)
      have kn : (k : Int) < (s.size : Int) := by omega
      by_cases h1 : s[k] = c
      · have d1 : ((s[k].toNat : Int) == (c.toNat : Int)) = true := by rw [h1]; simp
        have i3 : IntKind.i64.wrap ((cntTo s c k : Nat) + 1 : Int) = ((cntTo s c (k + 1) : Nat) : Int) := by rw [HS.out, if_pos h1]; rw [IntWalk.i64_in _ (by omega)]; omega
        clear h1
        go_wp2
        go_round
        case rel => exact ⟨k + 1, by omega, by go_num, rfl⟩
        case measure => simp [intOf]; omega
      · have d1 : ((s[k].toNat : Int) == (c.toNat : Int)) = false := by
          rw [beq_eq_false_iff_ne]
          intro hh
          exact h1 (UInt8.toNat_inj.1 (show s[k].toNat = c.toNat by omega))
        have HE : Hid (cntTo s c (k + 1) = cntTo s c k) := by show _ = _; rw [HS.out, if_neg h1]; rfl
        clear h1
        go_wp2
        go_round
        case rel => exact ⟨k + 1, by omega, by go_num, by rw [HE.out]⟩
        case measure => simp [intOf]; omega
    · obtain rfl : s.size = k := by omega
      go_wp2
      go_ret
      exact ⟨ret_int (by rw [cntTo_all s c _ (Nat.le_refl _)]; first | rfl | simp), rfl⟩
/-- the counts of a word -/
def mvC (bs : List UInt8) : Nat := (bs.flatMap longL).count 67 + (bs.flatMap longL).count 99
def mvT (bs : List UInt8) : Nat := (bs.flatMap longL).count 76 + (bs.flatMap longL).count 82 + (bs.flatMap longL).count 108 + (bs.flatMap longL).count 114
def mvP (bs : List UInt8) : Nat := (bs.flatMap longL).count 80
theorem mv_letter : ∀ c ∈ letters, (longL c).count 67 + (longL c).count 99 + ((longL c).count 76 + (longL c).count 82 + (longL c).count 108 + (longL c).count 114) = (crT (twV c) 3).length ∧ (longL c).count 80 = if c = 80 then 1 else 0 := by decide
theorem mv_len {bs : List UInt8} (h : ∀ c ∈ bs, isLet c = true) : ∀ k, k ≤ bs.length → mvC (bs.take k) + mvT (bs.take k) = (crW bs k).length ∧ mvP (bs.take k) = (bs.take k).count 80
  | 0, _ => by simp [mvC, mvT, mvP, crW]
  | k + 1, hk => by
    obtain ⟨c, hc⟩ := get_of_lt (l := bs) (k := k) (by omega)
    have ih := mv_len h k (by omega)
    have hl := mv_letter c (by have := h c (mem_of_get hc); unfold isLet at this; simpa using this)
    unfold mvC mvT mvP at ih ⊢
    rw [crW_succ hc, List.take_add_one, hc, List.length_append]
    simp only [Option.toList_some, List.flatMap_append, List.count_append, List.flatMap_cons, List.flatMap_nil, List.append_nil]
    have e : List.count 80 [c] = if c = 80 then 1 else 0 := by simp [List.count_cons]
    rw [e]
    omega
set_option maxRecDepth 100000 in
set_option maxHeartbeats 2000000 in
theorem moves20 (s : ByteArray) (w : World) (hs : s.size ≤ 16) (hok : wOk s = true) :
    Calls Try.prog 20 #[.string s] w fun e w' => e = .returned (.tuple #[.agg #[.int .i64 (mvC s.data.toList : Nat), .int .i64 (mvT s.data.toList : Nat), .int .i64 (mvP s.data.toList : Nat)], .int .i64 0]) ∧ Below w.heap.size w w' := by
  have C1 := Lib.hid (fun W => check03 s W (by omega))
  rw [wchk_ok hs hok] at C1
  have C2 := Lib.hid (fun W => long46 s W hs)
  obtain ⟨t, ht⟩ : ∃ t : ByteArray, t = ⟨(s.data.toList.flatMap longL).toArray⟩ := ⟨_, rfl⟩
  rw [← ht] at C2
  have htl : t.data.toList = s.data.toList.flatMap longL := by rw [ht]
  have hts : t.size ≤ 32 := by
    rw [← str_len, htl, ← longTo_all s s.size (Nat.le_refl _)]
    have := longTo_len s s.size
    omega
  have hc : ∀ c, t.data.toList.count c ≤ 32 := fun c => by have := List.count_le_length (l := t.data.toList) (a := c); rw [str_len] at this; omega
  have e1 : mvC s.data.toList = t.data.toList.count 67 + t.data.toList.count 99 := by unfold mvC; rw [htl]
  have e2 : mvT s.data.toList = t.data.toList.count 76 + t.data.toList.count 82 + t.data.toList.count 108 + t.data.toList.count 114 := by unfold mvT; rw [htl]
  have e3 : mvP s.data.toList = t.data.toList.count 80 := by unfold mvP; rw [htl]
  rw [e1, e2, e3]
  obtain ⟨n67, hn67⟩ : ∃ n, n = t.data.toList.count 67 := ⟨_, rfl⟩
  have b67 : n67 ≤ 32 := by rw [hn67]; exact hc 67
  have M67 : Hid (∀ W, Calls Try.prog 47 #[.string t, .int .u8 67] W fun e w' => e = .returned (.int .i64 (n67 : Nat)) ∧ W = w') := fun W => by rw [hn67]; exact many47 t 67 W (by omega)
  rw [← hn67]
  obtain ⟨n99, hn99⟩ : ∃ n, n = t.data.toList.count 99 := ⟨_, rfl⟩
  have b99 : n99 ≤ 32 := by rw [hn99]; exact hc 99
  have M99 : Hid (∀ W, Calls Try.prog 47 #[.string t, .int .u8 99] W fun e w' => e = .returned (.int .i64 (n99 : Nat)) ∧ W = w') := fun W => by rw [hn99]; exact many47 t 99 W (by omega)
  rw [← hn99]
  obtain ⟨n76, hn76⟩ : ∃ n, n = t.data.toList.count 76 := ⟨_, rfl⟩
  have b76 : n76 ≤ 32 := by rw [hn76]; exact hc 76
  have M76 : Hid (∀ W, Calls Try.prog 47 #[.string t, .int .u8 76] W fun e w' => e = .returned (.int .i64 (n76 : Nat)) ∧ W = w') := fun W => by rw [hn76]; exact many47 t 76 W (by omega)
  rw [← hn76]
  obtain ⟨n82, hn82⟩ : ∃ n, n = t.data.toList.count 82 := ⟨_, rfl⟩
  have b82 : n82 ≤ 32 := by rw [hn82]; exact hc 82
  have M82 : Hid (∀ W, Calls Try.prog 47 #[.string t, .int .u8 82] W fun e w' => e = .returned (.int .i64 (n82 : Nat)) ∧ W = w') := fun W => by rw [hn82]; exact many47 t 82 W (by omega)
  rw [← hn82]
  obtain ⟨n108, hn108⟩ : ∃ n, n = t.data.toList.count 108 := ⟨_, rfl⟩
  have b108 : n108 ≤ 32 := by rw [hn108]; exact hc 108
  have M108 : Hid (∀ W, Calls Try.prog 47 #[.string t, .int .u8 108] W fun e w' => e = .returned (.int .i64 (n108 : Nat)) ∧ W = w') := fun W => by rw [hn108]; exact many47 t 108 W (by omega)
  rw [← hn108]
  obtain ⟨n114, hn114⟩ : ∃ n, n = t.data.toList.count 114 := ⟨_, rfl⟩
  have b114 : n114 ≤ 32 := by rw [hn114]; exact hc 114
  have M114 : Hid (∀ W, Calls Try.prog 47 #[.string t, .int .u8 114] W fun e w' => e = .returned (.int .i64 (n114 : Nat)) ∧ W = w') := fun W => by rw [hn114]; exact many47 t 114 W (by omega)
  rw [← hn114]
  obtain ⟨n80, hn80⟩ : ∃ n, n = t.data.toList.count 80 := ⟨_, rfl⟩
  have b80 : n80 ≤ 32 := by rw [hn80]; exact hc 80
  have M80 : Hid (∀ W, Calls Try.prog 47 #[.string t, .int .u8 80] W fun e w' => e = .returned (.int .i64 (n80 : Nat)) ∧ W = w') := fun W => by rw [hn80]; exact many47 t 80 W (by omega)
  rw [← hn80]
  clear hok ht htl e1 e2 e3 hc hts hn67 hn99 hn76 hn82 hn108 hn114 hn80
  have i1 : IntKind.i64.wrap ((n67 : Int) + (n99 : Int)) = ((n67 + n99 : Nat) : Int) := by rw [IntWalk.i64_in _ (by omega)]; omega
  have i2 : IntKind.i64.wrap ((n76 : Int) + (n82 : Int)) = ((n76 + n82 : Nat) : Int) := by rw [IntWalk.i64_in _ (by omega)]; omega
  have i3 : IntKind.i64.wrap (((n76 + n82 : Nat) : Int) + (n108 : Int)) = ((n76 + n82 + n108 : Nat) : Int) := by rw [IntWalk.i64_in _ (by omega)]; omega
  have i4 : IntKind.i64.wrap (((n76 + n82 + n108 : Nat) : Int) + (n114 : Int)) = ((n76 + n82 + n108 + n114 : Nat) : Int) := by rw [IntWalk.i64_in _ (by omega)]; omega
  have K0 : Has (w.alloc (.cells #[.int .i64 0, .int .i64 0, .int .i64 0] 48)) w.heap.size 48 [.int .i64 0, .int .i64 0, .int .i64 0] := Has.new rfl
  go_enter Try.func20, Try.ntmps20
  go_wp2_with fail
  refine (C1.out _).mono ?_
  rintro e w' ⟨rfl, rfl⟩
  go_wp2_with fail
  refine (C2.out _).mono ?_
  rintro e w' ⟨rfl, rfl⟩
  go_wp2_with fail
  refine (M67.out _).mono ?_
  rintro e w' ⟨rfl, rfl⟩
  go_wp2_with fail
  refine (M99.out _).mono ?_
  rintro e w' ⟨rfl, rfl⟩
  go_wp2_with fail
  refine (M76.out _).mono ?_
  rintro e w' ⟨rfl, rfl⟩
  go_wp2_with fail
  refine (M82.out _).mono ?_
  rintro e w' ⟨rfl, rfl⟩
  go_wp2_with fail
  refine (M108.out _).mono ?_
  rintro e w' ⟨rfl, rfl⟩
  go_wp2_with fail
  refine (M114.out _).mono ?_
  rintro e w' ⟨rfl, rfl⟩
  go_wp2_with fail
  refine (M80.out _).mono ?_
  rintro e w' ⟨rfl, rfl⟩
  go_wp2
  refine post_cell_tmp (Has.new rfl) rfl rfl rfl rfl Try.underlying48 (by kernel_rfl) ⟨?_, by go_grown⟩
  simp [Int.natCast_add]
end Go.Proofs.Ytpljaoagiaijiaa
