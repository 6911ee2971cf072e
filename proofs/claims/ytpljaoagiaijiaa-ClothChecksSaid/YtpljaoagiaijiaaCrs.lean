/-
  Contracts: stitches.crossings and Crossings (chapter 3).
-/
import Derived.Test.YtpljaoagiaijiaaTw
import Derived.Test.YtpljaoagiaijiaaApC
namespace Go.Proofs.Ytpljaoagiaijiaa
open Go.RowKit
/-- the crossings of the first k places of a letter -/
def crT (v : List Int) : Nat → List Int
  | 0 => []
  | k + 1 => if v.getD k 0 = 0 then crT v k else crT v k ++ [v.getD k 0 * ((k : Int) + 1)]
/-- the crossings of the first i letters of a word -/
def crW (bs : List UInt8) : Nat → List Int
  | 0 => []
  | i + 1 => match bs[i]? with
    | some c => crW bs i ++ crT (twV c) 3
    | none => crW bs i
theorem crW_succ {bs : List UInt8} {i : Nat} {c : UInt8} (h : bs[i]? = some c) : crW bs (i + 1) = crW bs i ++ crT (twV c) 3 := by
  show (match bs[i]? with | some c => crW bs i ++ crT (twV c) 3 | none => crW bs i) = _
  rw [h]
theorem twV_le (c : UInt8) : ∀ v ∈ twV c, -1 ≤ v ∧ v ≤ 1 := by
  unfold twV
  repeat' split
  all_goals (intro v hv; simp at hv; omega)
theorem ixK (L : List Int) (k : Nat) (v : Int) (h : L[k]? = some v) (hl : L.length = 3) (W : World) : (Instr.index 109 (.agg (L.map vInt).toArray) (.int .i64 (k : Int))).run Try.prog W = .ok (.int .i64 v) W := by
  have z := Try.sizeOf3
  have a := Try.isAgg3
  match L, hl with
  | [v0, v1, v2], _ =>
    match k, h with
    | 0, h =>
      simp at h; subst h
      unfold Instr.index
      simp [asIntOf, Sem.run_bind, run_underlying Try.underlying109, part, z, a, Result.andThen, go_sem]
    | 1, h =>
      simp at h; subst h
      unfold Instr.index
      simp [asIntOf, Sem.run_bind, run_underlying Try.underlying109, part, z, a, Result.andThen, go_sem]
    | 2, h =>
      simp at h; subst h
      unfold Instr.index
      simp [asIntOf, Sem.run_bind, run_underlying Try.underlying109, part, z, a, Result.andThen, go_sem]
    | k + 3, h => simp at h
set_option maxRecDepth 100000 in
set_option maxHeartbeats 2000000 in
theorem crossings62 (s : ByteArray) (w : World) (hs : s.size ≤ 16) (hok : wOk s = true) :
    Calls Try.prog 62 #[.string s] w (RetO (crW s.data.toList s.size) w) := by
  have HOK : Hid (∀ (i : Nat) (hi : i < s.size), isLet s[i] = true ∧ s.data.toList[i]? = some s[i]) := fun i hi => by
    have h1 : s.data.toList[i]? = some s[i] := by
      rw [Array.getElem?_toList]
      exact Array.getElem?_eq_getElem hi
    exact ⟨(List.all_eq_true.1 hok) _ (mem_of_get h1), h1⟩
  clear hok
  go_enter Try.func62, Try.ntmps62
  go_wp2
  go_loopw [3, 9] (fun v i wr => ∃ (j l : Nat) (A' : Option Addr) (c' : Nat), j ≤ s.size ∧ l ≤ 3 * j ∧ i = .int .i64 (j : Int) ∧ v = .slice A' l c' ∧ Hid ((crW s.data.toList j).length = l) ∧ Hid (wr.ownsRow w.heap.size 3 1 v l ((crW s.data.toList j).map vInt)) ∧ Below w.heap.size w wr) (fun _ i _ => s.size - (intOf i).toNat)
  case atStart => exact ⟨0, 0, none, 0, Nat.zero_le _, Nat.le_refl _, rfl, rfl, Lib.hid rfl, Lib.hid (World.ownsRow_nil _ _ _ _), Below.refl _ _⟩
  case round =>
    obtain ⟨j, l, A', c', hj, hlj, rfl, rfl, HLL, HO, hb⟩ := hrel
    obtain ⟨wo, rfl⟩ : ∃ wo : World, wo = wr := ⟨_, rfl⟩
    have hz := hb.size
    by_cases hlt : j < s.size
    · obtain ⟨hlet, hget⟩ := HOK.out j hlt
      have T := Lib.hid (twists72 s[j] hlet wo)
      have HG := Lib.hid hget
      clear hlet hget
      go_wp2_with fail
      refine T.out.mono ?_
      rintro e w2 ⟨rfl, hb2⟩
      have HO2 := Lib.hid (own_below HO.out hb2)
      have B2 := hb.trans (hb2.mono hz)
      clear hb2 T HO hb
      obtain ⟨V, hV⟩ : ∃ V, V = twV s[j] := ⟨_, rfl⟩
      have HV : Hid (V.length = 3 ∧ ∀ v ∈ V, -1 ≤ v ∧ v ≤ 1) := by rw [hV]; exact ⟨twV_len _, twV_le _⟩
      have HS : Hid (crW s.data.toList (j + 1) = crW s.data.toList j ++ crT V 3) := by rw [hV]; exact crW_succ HG.out
      rw [← hV]
      clear hV
      go_wp2
      go_loopw [3, 16] (fun v i wr => ∃ (k l2 : Nat) (A2 : Option Addr) (c2 : Nat), k ≤ 3 ∧ l2 ≤ l + k ∧ i = .int .i64 (k : Int) ∧ v = .slice A2 l2 c2 ∧ Hid ((crW s.data.toList j ++ crT V k).length = l2) ∧ Hid (wr.ownsRow w.heap.size 3 1 v l2 ((crW s.data.toList j ++ crT V k).map vInt)) ∧ Below w.heap.size w wr) (fun _ i _ => 3 - (intOf i).toNat)
      case atStart => exact ⟨0, l, A', c', Nat.zero_le _, by omega, rfl, rfl, Lib.hid (by simp [crT]; exact HLL.out), Lib.hid (by simpa [crT] using HO2.out), B2⟩
      case round =>
        clear HO2 B2
        obtain ⟨k, l2, A2, c2, hk, hlk, rfl, rfl, HL2, HO, hb⟩ := hrel
        obtain ⟨wo, rfl⟩ : ∃ wo : World, wo = wr := ⟨_, rfl⟩
        have hz := hb.size
        by_cases hlt2 : k < 3
        · obtain ⟨v, hv⟩ := get_of_lt (l := V) (k := k) (by rw [HV.out.1]; exact hlt2)
          have hvb := HV.out.2 v (mem_of_get hv)
          have IX := fun W => ixK V k v hv HV.out.1 W
          have hD : V.getD k 0 = v := by rw [List.getD_eq_getElem?_getD, hv]; rfl
          have k3 : (k : Int) < 3 := by omega
          have i1 : IntKind.i64.wrap ((k : Int) + 1) = (k : Int) + 1 := IntWalk.i64_in _ (by omega)
          by_cases h0 : v = 0
          · have d0 : (v != 0) = false := by simpa using h0
            have HS2 : Hid (crT V (k + 1) = crT V k) := by
              show (if V.getD k 0 = 0 then crT V k else crT V k ++ [V.getD k 0 * ((k : Int) + 1)]) = _
              rw [hD, if_pos h0]
            clear h0 hv hD
            go_wp2
            go_roundw
            case rel => exact ⟨k + 1, l2, A2, c2, by omega, by omega, by go_num, rfl, Lib.hid (by rw [HS2.out]; exact HL2.out), Lib.hid (by rw [HS2.out]; exact HO.out), hb⟩
            case measure => first | (simp [intOf]; done) | (simp [intOf]; omega)
          · have d0 : (v != 0) = true := by simpa using h0
            obtain ⟨p, hp⟩ : ∃ p, p = v * ((k : Int) + 1) := ⟨_, rfl⟩
            have hpb : -3 ≤ p ∧ p ≤ 3 := by
              have hk' : k = 0 ∨ k = 1 ∨ k = 2 := by omega
              rcases hk' with rfl | rfl | rfl <;> simp at hp <;> omega
            have i2 : IntKind.i64.wrap (v * ((k : Int) + 1)) = p := by rw [← hp]; exact IntWalk.i64_in _ (by omega)
            have HS2 : Hid (crT V (k + 1) = crT V k ++ [p]) := by
              show (if V.getD k 0 = 0 then crT V k else crT V k ++ [V.getD k 0 * ((k : Int) + 1)]) = _
              rw [hD, if_neg h0, hp]
            clear h0 hv hD hp
            go_wp2_with (at_builtin; refine wpList_app rfl (.tmp 22) (.tmp 27) _ rfl w.heap.size 3 (.int .i64 0) 1 8 Try.underlying35 infoInt rfl (by omega) (by omega) _ _ _ rfl (HO.out.alloc _) wo.heap.size [vInt p] rfl rfl (news_new _ _ _) (one_int _ _) (by omega) (by simp; omega) ?_; intro ga cap1 w7 hg1 hown1 hgrow1 hor1)
            go_roundw
            case rel => exact ⟨k + 1, l2 + 1, some ⟨ga, 0, none⟩, cap1, by omega, by omega, by go_num, rfl, Lib.hid (by rw [HS2.out, ← List.append_assoc, List.length_append, HL2.out]; rfl), Lib.hid (by rw [HS2.out, ← List.append_assoc]; simpa using hown1), (hb.alloc hz _).grown hgrow1 (by simp; omega) (fun kk hk => (HO.out.lt kk hk).1)⟩
            case measure => first | (simp [intOf]; done) | (simp [intOf]; omega)
        · obtain rfl : k = 3 := by omega
          go_wp2
          go_roundw
          case rel => exact ⟨j + 1, l2, A2, c2, by omega, by omega, by go_num, rfl, Lib.hid (by rw [HS.out]; exact HL2.out), Lib.hid (by rw [HS.out]; exact HO.out), hb⟩
          case measure => first | (simp [intOf]; done) | (simp [intOf]; omega)
    · obtain rfl : s.size = j := by omega
      go_wp2
      go_ret
      exact ⟨A', l, c', rfl, HO.out, HLL.out, hb⟩
set_option maxRecDepth 100000 in
theorem crossings39 (s : ByteArray) (w : World) (hs : s.size ≤ 16) (hok : wOk s = true) :
    Calls Try.prog 39 #[.string s] w (RetIE (crW s.data.toList s.size) 0 w) := by
  have C1 := Lib.hid (stCheck s w (by omega))
  rw [wchk_ok hs hok] at C1
  have C2 := Lib.hid (crossings62 s w hs hok)
  clear hok
  go_enter Try.func39, Try.ntmps39
  go_wp2_with fail
  refine C1.out.mono ?_
  rintro e w' ⟨rfl, rfl⟩
  go_wp2_with fail
  refine C2.out.mono ?_
  rintro e w2 ⟨A2, n2, c2, rfl, r2, l2, hb2⟩
  have HR := Lib.hid r2; clear r2
  have hcc := own_caps HR.out
  go_wp2
  go_ret2
  exact ⟨A2, n2, c2, rfl, own_rd1 HR.out, l2, hcc.1, hcc.2, hb2⟩
end Go.Proofs.Ytpljaoagiaijiaa
