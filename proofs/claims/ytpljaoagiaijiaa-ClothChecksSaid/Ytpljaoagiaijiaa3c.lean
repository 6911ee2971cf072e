/-
  Contracts of torchonref03: crossing, crossings, Crossings.
-/
import Derived.Test.YtpljaoagiaijiaaCrs
import Derived.Test.YtpljaoagiaijiaaR03
namespace Go.Proofs.Ytpljaoagiaijiaa
open Go.RowKit
set_option maxRecDepth 100000 in
theorem cr67 (w : World) : Calls Try.prog 68 #[.int .u8 67] w (RetO [2] w) := by
  go_enter Try.func68, Try.ntmps68
  go_wp2
  go_ret
  exact ⟨some ⟨w.heap.size, 0, none⟩, 1, 1, rfl, World.ownsRow_lit w #[.int .i64 2] 1 (Nat.le_refl _) (by unfold maxLen; omega) rfl, rfl, by go_grown⟩
set_option maxRecDepth 100000 in
theorem cr84 (w : World) : Calls Try.prog 68 #[.int .u8 84] w (RetO [(-1), (-3)] w) := by
  go_enter Try.func68, Try.ntmps68
  go_wp2
  go_ret
  exact ⟨some ⟨w.heap.size, 0, none⟩, 2, 2, rfl, World.ownsRow_lit w #[.int .i64 (-1), .int .i64 (-3)] 2 (Nat.le_refl _) (by unfold maxLen; omega) rfl, rfl, by go_grown⟩
set_option maxRecDepth 100000 in
theorem cr76 (w : World) : Calls Try.prog 68 #[.int .u8 76] w (RetO [(-1)] w) := by
  go_enter Try.func68, Try.ntmps68
  go_wp2
  go_ret
  exact ⟨some ⟨w.heap.size, 0, none⟩, 1, 1, rfl, World.ownsRow_lit w #[.int .i64 (-1)] 1 (Nat.le_refl _) (by unfold maxLen; omega) rfl, rfl, by go_grown⟩
set_option maxRecDepth 100000 in
theorem cr82 (w : World) : Calls Try.prog 68 #[.int .u8 82] w (RetO [(-3)] w) := by
  go_enter Try.func68, Try.ntmps68
  go_wp2
  go_ret
  exact ⟨some ⟨w.heap.size, 0, none⟩, 1, 1, rfl, World.ownsRow_lit w #[.int .i64 (-3)] 1 (Nat.le_refl _) (by unfold maxLen; omega) rfl, rfl, by go_grown⟩
set_option maxRecDepth 100000 in
theorem cr80 (w : World) : Calls Try.prog 68 #[.int .u8 80] w (RetO [] w) := by
  go_enter Try.func68, Try.ntmps68
  go_wp2
  go_ret
  exact ⟨none, 0, 0, rfl, World.ownsRow_nil _ _ _ _, rfl, by go_grown⟩
set_option maxRecDepth 100000 in
theorem cr99 (w : World) : Calls Try.prog 68 #[.int .u8 99] w (RetO [(-2)] w) := by
  go_enter Try.func68, Try.ntmps68
  go_wp2
  go_ret
  exact ⟨some ⟨w.heap.size, 0, none⟩, 1, 1, rfl, World.ownsRow_lit w #[.int .i64 (-2)] 1 (Nat.le_refl _) (by unfold maxLen; omega) rfl, rfl, by go_grown⟩
set_option maxRecDepth 100000 in
theorem cr116 (w : World) : Calls Try.prog 68 #[.int .u8 116] w (RetO [1, 3] w) := by
  go_enter Try.func68, Try.ntmps68
  go_wp2
  go_ret
  exact ⟨some ⟨w.heap.size, 0, none⟩, 2, 2, rfl, World.ownsRow_lit w #[.int .i64 1, .int .i64 3] 2 (Nat.le_refl _) (by unfold maxLen; omega) rfl, rfl, by go_grown⟩
set_option maxRecDepth 100000 in
theorem cr108 (w : World) : Calls Try.prog 68 #[.int .u8 108] w (RetO [1] w) := by
  go_enter Try.func68, Try.ntmps68
  go_wp2
  go_ret
  exact ⟨some ⟨w.heap.size, 0, none⟩, 1, 1, rfl, World.ownsRow_lit w #[.int .i64 1] 1 (Nat.le_refl _) (by unfold maxLen; omega) rfl, rfl, by go_grown⟩
set_option maxRecDepth 100000 in
theorem cr114 (w : World) : Calls Try.prog 68 #[.int .u8 114] w (RetO [3] w) := by
  go_enter Try.func68, Try.ntmps68
  go_wp2
  go_ret
  exact ⟨some ⟨w.heap.size, 0, none⟩, 1, 1, rfl, World.ownsRow_lit w #[.int .i64 3] 1 (Nat.le_refl _) (by unfold maxLen; omega) rfl, rfl, by go_grown⟩
theorem crossing68 (c : UInt8) (h : isLet c = true) (w : World) : Calls Try.prog 68 #[.int .u8 c.toNat] w (RetO (crT (twV c) 3) w) := by
  rcases let_cases h with rfl | rfl | rfl | rfl | rfl | rfl | rfl | rfl | rfl
  · exact cr67 w
  · exact cr84 w
  · exact cr76 w
  · exact cr82 w
  · exact cr80 w
  · exact cr99 w
  · exact cr116 w
  · exact cr108 w
  · exact cr114 w
theorem crW_len3 (bs : List UInt8) : ∀ i, (crW bs i).length ≤ 3 * i
  | 0 => Nat.le_refl _
  | i + 1 => by
    have := crW_len3 bs i
    have h3 : ∀ v : List Int, (crT v 3).length ≤ 3 := fun v => by
      simp only [crT]
      repeat' split
      all_goals simp
    unfold crW
    split
    · have := h3 (twV ‹UInt8›)
      rw [List.length_append]; omega
    · omega
set_option maxRecDepth 100000 in
set_option maxHeartbeats 2000000 in
theorem crossings53 (s : ByteArray) (w : World) (hs : s.size ≤ 16) (hok : wOk s = true) :
    Calls Try.prog 53 #[.string s] w (RetO (crW s.data.toList s.size) w) := by
  have HOK : Hid (∀ (i : Nat) (hi : i < s.size), isLet s[i] = true ∧ s.data.toList[i]? = some s[i]) := fun i hi => by
    have h1 : s.data.toList[i]? = some s[i] := by
      rw [Array.getElem?_toList]
      exact Array.getElem?_eq_getElem hi
    exact ⟨(List.all_eq_true.1 hok) _ (mem_of_get h1), h1⟩
  clear hok
  go_enter Try.func53, Try.ntmps53
  go_wp2
  go_loopw [3, 4] (fun v i wr => ∃ (j l : Nat) (A' : Option Addr) (c' : Nat), j ≤ s.size ∧ l ≤ 3 * j ∧ i = .int .i64 (j : Int) ∧ v = .slice A' l c' ∧ Hid ((crW s.data.toList j).length = l) ∧ Hid (wr.ownsRow w.heap.size 3 1 v l ((crW s.data.toList j).map vInt)) ∧ Below w.heap.size w wr) (fun _ i _ => s.size - (intOf i).toNat)
  case atStart => exact ⟨0, 0, none, 0, Nat.zero_le _, Nat.le_refl _, rfl, rfl, Lib.hid rfl, Lib.hid (World.ownsRow_nil _ _ _ _), Below.refl _ _⟩
  case round =>
    obtain ⟨j, l, A', c', hj, hlj, rfl, rfl, HLL, HO, hb⟩ := hrel
    obtain ⟨wo, rfl⟩ : ∃ wo : World, wo = wr := ⟨_, rfl⟩
    have hz := hb.size
    by_cases hlt : j < s.size
    · obtain ⟨hlet, hget⟩ := HOK.out j hlt
      have T := Lib.hid (crossing68 s[j] hlet wo)
      have HS := Lib.hid (crW_succ hget)
      obtain ⟨V, hV⟩ : ∃ V, V = crT (twV s[j]) 3 := ⟨_, rfl⟩
      rw [← hV] at T HS
      clear hlet hget hV
      go_wp2_with fail
      refine T.out.mono ?_
      rintro e w2 ⟨A2, n2, c2, rfl, o2, l2, hb2⟩
      have HO2 := Lib.hid (own_below HO.out hb2)
      have HR2 := Lib.hid (own_rd1 o2)
      have B2 := hb.trans (hb2.mono hz)
      have hz2 := B2.size
      have hl3 : l + n2 ≤ 48 + 3 := by
        have h1 := crW_len3 s.data.toList (j + 1)
        rw [HS.out, List.length_append, HLL.out, l2] at h1
        omega
      have HL2 := Lib.hid l2
      have hl4 : l + n2 ≤ 3 * (j + 1) := by
        have h1 := crW_len3 s.data.toList (j + 1)
        rw [HS.out, List.length_append, HLL.out, l2] at h1
        omega
      clear hb2 T HO hb o2 l2
      go_wp2_with (first | (at_builtin; refine wpList_appI rfl (.tmp 11) (.tmp 15) rfl w.heap.size _ _ (crW s.data.toList j) rfl HO2.out A2 n2 c2 V rfl HR2.out HL2.out (by omega) (by omega) ?_; intro A3 c3 w3 hown3 hgrow3) | fail)
      have HO3 := Lib.hid hown3
      have B3 := B2.grown hgrow3 (by omega) (fun kk hk => (HO2.out.lt kk hk).1)
      clear hown3 hgrow3
      go_roundw
      case rel => exact ⟨j + 1, l + n2, A3, c3, by omega, hl4, by go_num, rfl, Lib.hid (by rw [HS.out, List.length_append, HLL.out, HL2.out]), Lib.hid (by rw [HS.out]; exact HO3.out), B3⟩
      case measure => first | (simp [intOf]; done) | (simp [intOf]; omega)
    · obtain rfl : s.size = j := by omega
      go_wp2
      go_ret
      exact ⟨A', l, c', rfl, HO.out, HLL.out, hb⟩
/-- a valid word: the own row, no error -/
theorem crossings42 (s : ByteArray) (w : World) (hs : s.size ≤ 16) (hok : wOk s = true) :
    Calls Try.prog 42 #[.string s] w fun e w' => ∃ A n c, e = .returned (.tuple #[.slice A n c, .int .i64 0]) ∧ w'.ownsRow w.heap.size 3 1 (.slice A n c) n ((crW s.data.toList s.size).map vInt) ∧ (crW s.data.toList s.size).length = n ∧ Below w.heap.size w w' := by
  have C1 := Lib.hid (check03 s w (by omega))
  rw [wchk_ok hs hok] at C1
  have C2 := Lib.hid (crossings53 s w hs hok)
  clear hok
  go_enter Try.func42, Try.ntmps42
  go_wp2_with fail
  refine C1.out.mono ?_
  rintro e w' ⟨rfl, rfl⟩
  go_wp2_with fail
  refine C2.out.mono ?_
  rintro e w2 ⟨A2, n2, c2, rfl, r2, l2, hb2⟩
  have HR := Lib.hid r2; clear r2
  go_wp2
  go_ret2
  exact ⟨A2, n2, c2, rfl, HR.out, l2, hb2⟩
set_option maxRecDepth 100000 in
set_option maxHeartbeats 1000000 in
theorem line41 (m : Nat) (w : World) (hm : m ≤ 48) : Calls Try.prog 41 #[.int .i64 (m : Int)] w (RetO (lineL m) w) := by
  go_enter Try.func41, Try.ntmps41
  go_wp2
  go_loopw [3, 4] (fun v i wr => ∃ (j : Nat) (A' : Option Addr) (c' : Nat), j ≤ m ∧ i = .int .i64 (j : Int) ∧ v = .slice A' j c' ∧ Hid (wr.ownsRow w.heap.size 3 1 v j ((lineL j).map vInt)) ∧ Below w.heap.size w wr) (fun _ i _ => m - (intOf i).toNat)
  case atStart => exact ⟨0, none, 0, Nat.zero_le _, rfl, rfl, Lib.hid (World.ownsRow_nil _ _ _ _), Below.refl _ _⟩
  case round =>
    obtain ⟨j, A', c', hj, rfl, rfl, HO, hb⟩ := hrel
    obtain ⟨wo, rfl⟩ : ∃ wo : World, wo = wr := ⟨_, rfl⟩
    have hz := hb.size
    by_cases hlt : j < m
    · have jm : (j : Int) < (m : Int) := by omega
      have HS : Hid (lineL (j + 1) = lineL j ++ [(j : Int)]) := by show lineL (j + 1) = _; simp [lineL, List.range_succ]
      go_wp2_with (first | (at_builtin; refine wpList_app rfl (.tmp 10) (.tmp 12) _ rfl w.heap.size 3 (.int .i64 0) 1 8 Try.underlying35 infoInt rfl (by omega) (by omega) _ _ _ rfl (HO.out.alloc _) wo.heap.size [vInt (j : Int)] rfl rfl (news_new _ _ _) (one_int _ _) (by omega) (by simp; omega) ?_; intro ga cap1 w7 hg1 hown1 hgrow1 hor1) | fail)
      go_roundw
      case rel => exact ⟨j + 1, some ⟨ga, 0, none⟩, cap1, by omega, by go_num, rfl, Lib.hid (by rw [HS.out, List.map_append]; exact hown1), (hb.alloc hz _).grown hgrow1 (by simp; omega) (fun kk hk => (HO.out.lt kk hk).1)⟩
      case measure => first | (simp [intOf]; done) | (simp [intOf]; omega)
    · obtain rfl : m = j := by omega
      have jm : ¬ (m : Int) < (m : Int) := by omega
      go_wp2
      go_ret
      exact ⟨A', m, c', rfl, HO.out, lineL_len _, hb⟩
end Go.Proofs.Ytpljaoagiaijiaa
