/-
  Contracts: stitches.crossings and Crossings (chapter 3).
-/
import Derived.Test.YtaenafcecfdffaaVB1
import Derived.Test.YtaenafcecfdffaaVB2
import Derived.Deep.Cut
import Derived.BigQuiet
namespace Go.Proofs.Ytaenafcecfdffaa
open Go.RowKit
/-- the crossings of the first k places of a letter -/
def crT (v : List Int) : Nat → List Int
  | 0 => []
  | k + 1 => if v.getD k 0 = 0 then crT v k else crT v k ++ [v.getD k 0 * ((k : Int) + 1)]
/-- the crossings of the first i letters of a word -/
def crW (bs : List UInt8) : Nat → List Int
  | 0 => []
  | i + 1 => match bs[i]? with
    | some c => crW bs i ++ crT (twV c) 3
    | none => crW bs i
theorem crW_succ {bs : List UInt8} {i : Nat} {c : UInt8} (h : bs[i]? = some c) : crW bs (i + 1) = crW bs i ++ crT (twV c) 3 := by
  show (match bs[i]? with | some c => crW bs i ++ crT (twV c) 3 | none => crW bs i) = _
  rw [h]
theorem twV_le (c : UInt8) : ∀ v ∈ twV c, -1 ≤ v ∧ v ≤ 1 := by
  unfold twV
  repeat' split
  all_goals (intro v hv; simp at hv; omega)
theorem ixK (L : List Int) (k : Nat) (v : Int) (h : L[k]? = some v) (hl : L.length = 3) (W : World) : (Instr.index 139 (.agg (L.map vInt).toArray) (.int .i64 (k : Int))).run Try.prog W = .ok (.int .i64 v) W := by
  have z := Try.sizeOf3
  have a := Try.isAgg3
  match L, hl with
  | [v0, v1, v2], _ =>
    match k, h with
    | 0, h =>
      simp at h; subst h
      unfold Instr.index
      simp [asIntOf, Sem.run_bind, run_underlying Try.underlying139, part, z, a, Result.andThen, go_sem]
    | 1, h =>
      simp at h; subst h
      unfold Instr.index
      simp [asIntOf, Sem.run_bind, run_underlying Try.underlying139, part, z, a, Result.andThen, go_sem]
    | 2, h =>
      simp at h; subst h
      unfold Instr.index
      simp [asIntOf, Sem.run_bind, run_underlying Try.underlying139, part, z, a, Result.andThen, go_sem]
    | k + 3, h => simp at h
set_option maxRecDepth 100000 in
set_option maxHeartbeats 2000000 in
theorem crossings62 (s : ByteArray) (w : World) (hs : s.size ≤ 16) (hok : wOk s = true) :
    Calls Try.prog 69 #[.string s] w (RetO (crW s.data.toList s.size) w) := by
  have HOK : Hid (∀ (i : Nat) (hi : i < s.size), isLet s[i] = true ∧ s.data.toList[i]? = some s[i]) := fun i hi => by
    have h1 : s.data.toList[i]? = some s[i] := by
      rw [Array.getElem?_toList]
      exact Array.getElem?_eq_getElem hi
    exact ⟨(List.all_eq_true.1 hok) _ (mem_of_get h1), h1⟩
  clear hok
  go_enter Try.func69, Try.ntmps69
  go_wp2
  go_loopw [3, 9] (fun v i wr => ∃ (j l : Nat) (A' : Option Addr) (c' : Nat), j ≤ s.size ∧ l ≤ 3 * j ∧ i = .int .i64 (j : Int) ∧ v = .slice A' l c' ∧ Hid ((crW s.data.toList j).length = l) ∧ Hid (wr.ownsRow w.heap.size 3 1 v l ((crW s.data.toList j).map vInt)) ∧ Below w.heap.size w wr) (fun _ i _ => s.size - (intOf i).toNat)
  case atStart => exact ⟨0, 0, none, 0, Nat.zero_le _, Nat.le_refl _, rfl, rfl, Lib.hid rfl, Lib.hid (World.ownsRow_nil _ _ _ _), Below.refl _ _⟩
  case round =>
    obtain ⟨j, l, A', c', hj, hlj, rfl, rfl, HLL, HO, hb⟩ := hrel
    obtain ⟨wo, rfl⟩ : ∃ wo : World, wo = wr := ⟨_, rfl⟩
    have hz := hb.size
    by_cases hlt : j < s.size
    · obtain ⟨hlet, hget⟩ := HOK.out j hlt
      have T := Lib.hid (twists72 s[j] hlet wo)
      have HG := Lib.hid hget
      clear hlet hget
      go_wp2_with fail
      refine T.out.mono ?_
      rintro e w2 ⟨rfl, hb2⟩
      have HO2 := Lib.hid (own_below HO.out hb2)
      have B2 := hb.trans (hb2.mono hz)
      clear hb2 T HO hb
      obtain ⟨V, hV⟩ : ∃ V, V = twV s[j] := ⟨_, rfl⟩
      have HV : Hid (V.length = 3 ∧ ∀ v ∈ V, -1 ≤ v ∧ v ≤ 1) := by rw [hV]; exact ⟨twV_len _, twV_le _⟩
      have HS : Hid (crW s.data.toList (j + 1) = crW s.data.toList j ++ crT V 3) := by rw [hV]; exact crW_succ HG.out
      rw [← hV]
      clear hV
      go_wp2
      go_loopw [3, 16] (fun v i wr => ∃ (k l2 : Nat) (A2 : Option Addr) (c2 : Nat), k ≤ 3 ∧ l2 ≤ l + k ∧ i = .int .i64 (k : Int) ∧ v = .slice A2 l2 c2 ∧ Hid ((crW s.data.toList j ++ crT V k).length = l2) ∧ Hid (wr.ownsRow w.heap.size 3 1 v l2 ((crW s.data.toList j ++ crT V k).map vInt)) ∧ Below w.heap.size w wr) (fun _ i _ => 3 - (intOf i).toNat)
      case atStart => exact ⟨0, l, A', c', Nat.zero_le _, by omega, rfl, rfl, Lib.hid (by simp [crT]; exact HLL.out), Lib.hid (by simpa [crT] using HO2.out), B2⟩
      case round =>
        clear HO2 B2
        obtain ⟨k, l2, A2, c2, hk, hlk, rfl, rfl, HL2, HO, hb⟩ := hrel
        obtain ⟨wo, rfl⟩ : ∃ wo : World, wo = wr := ⟨_, rfl⟩
        have hz := hb.size
        by_cases hlt2 : k < 3
        · obtain ⟨v, hv⟩ := get_of_lt (l := V) (k := k) (by rw [HV.out.1]; exact hlt2)
          have hvb := HV.out.2 v (mem_of_get hv)
          have IX := fun W => ixK V k v hv HV.out.1 W
          have hD : V.getD k 0 = v := by rw [List.getD_eq_getElem?_getD, hv]; rfl
          have k3 : (k : Int) < 3 := by omega
          have i1 : IntKind.i64.wrap ((k : Int) + 1) = (k : Int) + 1 := IntWalk.i64_in _ (by omega)
          by_cases h0 : v = 0
          · have d0 : (v != 0) = false := by simpa using h0
            have HS2 : Hid (crT V (k + 1) = crT V k) := by
              show (if V.getD k 0 = 0 then crT V k else crT V k ++ [V.getD k 0 * ((k : Int) + 1)]) = _
              rw [hD, if_pos h0]
            clear h0 hv hD
            go_wp2
            go_roundw
            case rel => exact ⟨k + 1, l2, A2, c2, by omega, by omega, by go_num, rfl, Lib.hid (by rw [HS2.out]; exact HL2.out), Lib.hid (by rw [HS2.out]; exact HO.out), hb⟩
            case measure => first | (simp [intOf]; done) | (simp [intOf]; omega)
          · have d0 : (v != 0) = true := by simpa using h0
            obtain ⟨p, hp⟩ : ∃ p, p = v * ((k : Int) + 1) := ⟨_, rfl⟩
            have hpb : -3 ≤ p ∧ p ≤ 3 := by
              have hk' : k = 0 ∨ k = 1 ∨ k = 2 := by omega
              rcases hk' with rfl | rfl | rfl <;> simp at hp <;> omega
            have i2 : IntKind.i64.wrap (v * ((k : Int) + 1)) = p := by rw [← hp]; exact IntWalk.i64_in _ (by omega)
            have HS2 : Hid (crT V (k + 1) = crT V k ++ [p]) := by
              show (if V.getD k 0 = 0 then crT V k else crT V k ++ [V.getD k 0 * ((k : Int) + 1)]) = _
              rw [hD, if_neg h0, hp]
            clear h0 hv hD hp
            go_wp2_with (at_builtin; refine wpList_app rfl (.tmp 22) (.tmp 27) _ rfl w.heap.size 3 (.int .i64 0) 1 8 Try.underlying39 infoInt rfl (by omega) (by omega) _ _ _ rfl (HO.out.alloc _) wo.heap.size [vInt p] rfl rfl (news_new _ _ _) (one_int _ _) (by omega) (by simp; omega) ?_; intro ga cap1 w7 hg1 hown1 hgrow1 hor1)
            go_roundw
            case rel => exact ⟨k + 1, l2 + 1, some ⟨ga, 0, none⟩, cap1, by omega, by omega, by go_num, rfl, Lib.hid (by rw [HS2.out, ← List.append_assoc, List.length_append, HL2.out]; rfl), Lib.hid (by rw [HS2.out, ← List.append_assoc]; simpa using hown1), (hb.alloc hz _).grown hgrow1 (by simp; omega) (fun kk hk => (HO.out.lt kk hk).1)⟩
            case measure => first | (simp [intOf]; done) | (simp [intOf]; omega)
        · obtain rfl : k = 3 := by omega
          go_wp2
          go_roundw
          case rel => exact ⟨j + 1, l2, A2, c2, by omega, by omega, by go_num, rfl, Lib.hid (by rw [HS.out]; exact HL2.out), Lib.hid (by rw [HS.out]; exact HO.out), hb⟩
          case measure => first | (simp [intOf]; done) | (simp [intOf]; omega)
    · obtain rfl : s.size = j := by omega
      go_wp2
      go_ret
      exact ⟨A', l, c', rfl, HO.out, HLL.out, hb⟩
set_option maxRecDepth 100000 in
theorem crossings39 (s : ByteArray) (w : World) (hs : s.size ≤ 16) (hok : wOk s = true) :
    Calls Try.prog 36 #[.string s] w (RetIE (crW s.data.toList s.size) 0 w) := by
  have C1 := Lib.hid (stCheck s w (by omega))
  rw [wchk_ok hs hok] at C1
  have C2 := Lib.hid (crossings62 s w hs hok)
  clear hok
  go_enter Try.func36, Try.ntmps36
  go_wp2_with fail
  refine C1.out.mono ?_
  rintro e w' ⟨rfl, rfl⟩
  go_wp2_with fail
  refine C2.out.mono ?_
  rintro e w2 ⟨A2, n2, c2, rfl, r2, l2, hb2⟩
  have HR := Lib.hid r2; clear r2
  have hcc := own_caps HR.out
  go_wp2
  go_ret2
  exact ⟨A2, n2, c2, rfl, own_rd1 HR.out, l2, hcc.1, hcc.2, hb2⟩
end Go.Proofs.Ytaenafcecfdffaa
/-
  Contract of chapter 17: the closure of Make that puts in a pin.
-/
namespace Go.Proofs.Ytaenafcecfdffaa
open Go.RowKit
def q4C (x : Q4) : List Value := [.int .i64 x.a, .int .i64 x.b, .int .i64 x.c, .int .i64 x.d]
def qsC (ws : List Q4) : List Value := ws.flatMap q4C
/-- all but one block, and the block of a row, is as it was -/
structure KeepP (gc : Nat) (blk : Option Nat) (V W : World) : Prop where
  os : W.os = V.os
  tape : W.tape = V.tape
  output : W.output = V.output
  size : V.heap.size ≤ W.heap.size
  same : ∀ r, r < V.heap.size → r ≠ gc → some r ≠ blk → W.heap[r]? = V.heap[r]?
theorem KeepP.mk1 {gc : Nat} {blk : Option Nat} {V V2 W : World} (h : Below V.heap.size V V2) (k : V2.grownBy W blk) (i : Nat) (u : Value) : KeepP gc blk V (W.setCell ⟨gc, i, none⟩ u) := by
  have hs := (Below.refl 0 W).setCell (p := ⟨gc, i, none⟩) (Nat.zero_le _) u
  exact ⟨hs.os.trans (k.os.trans h.os), hs.tape.trans (k.tape.trans h.tape), hs.output.trans (k.output.trans h.output), Nat.le_trans (Nat.le_trans h.size k.size) hs.size,
    fun r hr hne hb => (Below.heap_setCell W _ u r hne).trans ((k.block r (Nat.lt_of_lt_of_le hr h.size) hb).trans (h.block r hr))⟩
theorem KeepP.drew {gc : Nat} {blk : Option Nat} {V W : World} (h : KeepP gc blk V W) : KeepP gc blk V W.drew := ⟨h.os, h.tape, h.output, h.size, h.same⟩
theorem qsC_app (ws : List Q4) (x : Q4) : qsC (ws ++ [x]) = qsC ws ++ q4C x := by simp [qsC]
theorem infoPn : (Try.prog.info? 56).map (fun i => (i.zero, i.size, i.bytes)) = some (some (.agg #[.int .i64 0, .int .i64 0, .int .i64 0, .int .i64 0]), 4, 32) := by kernel_rfl
end Go.Proofs.Ytaenafcecfdffaa
/-
  Plain words: the cloth that a sheet makes, step by step (chapter 17).
-/
namespace Go.Proofs.Ytaenafcecfdffaa
open Go.RowKit
/-- the line, the crossings and the pins made so far -/
structure Mk where
  l : List Int
  xs : List Q4
  ps : List Q4
def Mk.pin (s : Mk) (i : Int) (mid : Nat) : Mk := { s with ps := s.ps ++ [⟨i, (mid : Int), s.l.getD mid 0, s.l.getD (mid + 1) 0⟩] }
/-- the place of a crossing of a work -/
def mkAt (mid : Nat) (n : Int) : Int := (mid : Int) - 2 + (if n < -n then -n else n)
def mkX (l : List Int) (i : Int) (mid : Nat) (n : Int) : Q4 := if n < 0 then ⟨i, mkAt mid n, l.getD ((mkAt mid n).toNat + 1) 0, l.getD (mkAt mid n).toNat 0⟩ else ⟨i, mkAt mid n, l.getD (mkAt mid n).toNat 0, l.getD ((mkAt mid n).toNat + 1) 0⟩
def Mk.cross (s : Mk) (i : Int) (mid : Nat) (n : Int) : Mk := { s with l := swapL s.l (mkX s.l i mid n), xs := s.xs ++ [mkX s.l i mid n] }
/-- the first k crossings of a letter -/
def Mk.crosses (s : Mk) (i : Int) (mid : Nat) (ns : List Int) : Nat → Mk
  | 0 => s
  | k + 1 => match ns[k]? with
    | some n => (s.crosses i mid ns k).cross i mid n
    | none => s.crosses i mid ns k
def Mk.letter (s : Mk) (i : Int) (mid : Nat) (c : UInt8) : Mk := if c = 80 then s.pin i mid else s.crosses i mid (crW [c] 1) (crW [c] 1).length
/-- the first k letters of a word -/
def Mk.letters (s : Mk) (i : Int) (mid : Nat) (bs : List UInt8) : Nat → Mk
  | 0 => s
  | k + 1 => match bs[k]? with
    | some c => (s.letters i mid bs k).letter i mid c
    | none => s.letters i mid bs k
/-- the place between the two pairs of a work -/
def mkMid (x : Wk) : Nat := 2 * x.at_.toNat + 1
def Mk.work (s : Mk) (i : Nat) (x : Wk) : Mk := (if x.kind = 2 then s.pin (i : Int) (mkMid x) else s).letters (i : Int) (mkMid x) x.word.data.toList x.word.data.toList.length
/-- the first k works of a sheet -/
def Mk.works (ws : List Wk) : Nat → Mk
  | 0 => ⟨lineL 48, [], []⟩
  | k + 1 => match ws[k]? with
    | some x => (Mk.works ws k).work k x
    | none => Mk.works ws k
theorem Mk.cross_len (s : Mk) (i : Int) (mid : Nat) (n : Int) : (s.cross i mid n).l.length = s.l.length := by
  unfold Mk.cross swapL; simp
theorem Mk.crosses_len (s : Mk) (i : Int) (mid : Nat) (ns : List Int) : ∀ k, (s.crosses i mid ns k).l.length = s.l.length
  | 0 => rfl
  | k + 1 => by
    unfold Mk.crosses
    split
    · rw [Mk.cross_len, Mk.crosses_len s i mid ns k]
    · exact Mk.crosses_len s i mid ns k
theorem Mk.letter_len (s : Mk) (i : Int) (mid : Nat) (c : UInt8) : (s.letter i mid c).l.length = s.l.length := by
  unfold Mk.letter
  split
  · rfl
  · exact Mk.crosses_len _ _ _ _ _
theorem Mk.letters_len (s : Mk) (i : Int) (mid : Nat) (bs : List UInt8) : ∀ k, (s.letters i mid bs k).l.length = s.l.length
  | 0 => rfl
  | k + 1 => by
    unfold Mk.letters
    split
    · rw [Mk.letter_len, Mk.letters_len s i mid bs k]
    · exact Mk.letters_len s i mid bs k
theorem Mk.work_len (s : Mk) (i : Nat) (x : Wk) : (s.work i x).l.length = s.l.length := by
  unfold Mk.work
  rw [Mk.letters_len]
  split <;> rfl
theorem Mk.works_len (ws : List Wk) : ∀ k, (Mk.works ws k).l.length = 48
  | 0 => lineL_len 48
  | k + 1 => by
    unfold Mk.works
    split
    · rw [Mk.work_len, Mk.works_len ws k]
    · exact Mk.works_len ws k
/-- two rows of the call's own with elements of two types lie in two blocks -/
theorem own_apart {w : World} {base base' : Nat} {e e' : TypeId} {size size' n n' : Nat} {v v' : Value} {xs xs' : List Value} (h : w.ownsRow base e size v n xs) (h' : w.ownsRow base' e' size' v' n' xs') (hne : e ≠ e') {b : Nat} (hb : v.ownBlock = some b) : v'.ownBlock ≠ some b := by
  rcases h.2 with ⟨rfl, _⟩ | ⟨g, cap, cur, rfl, _, hh, _⟩
  · simp [Value.ownBlock] at hb
  · have hg : g = b := by simpa [Value.ownBlock] using hb
    subst hg
    have hH : Has w g e cur.toList := by unfold Has; rw [hh, Array.toArray_toList]
    exact hH.ne_own h' hne
/-- the example of the document -/
theorem mk_example : (Mk.works [⟨1, 0, ⟨#[67, 84, 80, 67]⟩⟩] 1).xs = [⟨0, 1, 1, 2⟩, ⟨0, 0, 2, 0⟩, ⟨0, 2, 3, 1⟩, ⟨0, 1, 0, 3⟩] ∧ (Mk.works [⟨1, 0, ⟨#[67, 84, 80, 67]⟩⟩] 1).ps = [⟨0, 1, 0, 3⟩] := by decide +kernel
end Go.Proofs.Ytaenafcecfdffaa
/-
  Contract of sheet.Check, and of slices.ContainsFunc over works with Check's closure.
-/
namespace Go.Proofs.Ytaenafcecfdffaa
open Go.RowKit
/-- some work before the k-th has a long word -/
def someLong (ws : List Wk) : Bool := ws.any fun x => decide (16 < x.word.size)
end Go.Proofs.Ytaenafcecfdffaa
/-
  Contract of sheet.Check: the error of a sheet.
-/
namespace Go.Proofs.Ytaenafcecfdffaa
open Go.RowKit
/-- what sheet.Check has found of the forms of the first k works -/
def formTo (ws : List Wk) (k : Nat) : Int := if (ws.take k).all (fun x => wOk x.word) then 0 else 6
theorem formTo_zero (ws : List Wk) : formTo ws 0 = 0 := by simp [formTo]
theorem formTo_succ {ws : List Wk} {k : Nat} {x : Wk} (hx : ws[k]? = some x) (h16 : x.word.size ≤ 16) : formTo ws (k + 1) = if formTo ws k < wchk x.word then wchk x.word else formTo ws k := by
  unfold formTo
  rw [List.take_add_one, hx, List.all_append]
  cases h : wOk x.word with
  | true => rw [wchk_ok h16 h]; cases hh : (ws.take k).all (fun x => wOk x.word) <;> simp [h]
  | false => rw [wchk_bad h16 h]; cases hh : (ws.take k).all (fun x => wOk x.word) <;> simp [h]
theorem formTo_cases (ws : List Wk) (k : Nat) : formTo ws k = 0 ∨ formTo ws k = 6 := by unfold formTo; split <;> simp
theorem formTo_all (ws : List Wk) (n : Nat) (h : ws.length ≤ n) : formTo ws n = if ws.all (fun x => wOk x.word) then 0 else 6 := by
  unfold formTo; rw [List.take_of_length_le h]
theorem someLong_no {ws : List Wk} (h : someLong ws = false) : ∀ (k : Nat) (x : Wk), ws[k]? = some x → x.word.size ≤ 16 := fun k x hx => by
  unfold someLong at h
  rw [List.any_eq_false] at h
  have := h x (mem_of_get hx)
  simp at this; omega
theorem someLong_yes {ws : List Wk} (h : someLong ws = true) : ∃ (k : Nat) (x : Wk), ws[k]? = some x ∧ 16 < x.word.size := by
  unfold someLong at h
  obtain ⟨x, hx, h⟩ := List.any_eq_true.1 h
  obtain ⟨k, hk, rfl⟩ := List.mem_iff_getElem.1 hx
  exact ⟨k, _, List.getElem?_eq_getElem hk, by simpa using h⟩
theorem wkBad_of2 {p : Int} {x : Wk} (h : (¬ x.kind = 1 ∧ (¬ x.kind = 2 ∨ x.word.toList.isEmpty = false)) ∨ x.at_ < 0 ∨ p - 2 < x.at_) : wkBad p x = true := by
  rcases h with ⟨h1, h2⟩ | h | h
  · by_cases hk : x.kind = 2
    · rcases h2 with h2 | h2
      · exact absurd hk h2
      · exact wkBad_of (.inr (.inr (.inr ⟨hk, by simp [h2]⟩)))
    · exact wkBad_of (.inl ⟨h1, hk⟩)
  · exact wkBad_of (.inr (.inl h))
  · exact wkBad_of (.inr (.inr (.inl h)))
end Go.Proofs.Ytaenafcecfdffaa
/-
  Plain law: the threads that the crossings of a cloth without error name are threads of it.
-/
namespace Go.Proofs.Ytaenafcecfdffaa
open Go.RowKit
theorem endsTo_rng (xs : List Q4) (T : Nat) : ∀ (k : Nat) (L : List Int), endsTo xs (lineL T) k = some L → ∀ v ∈ L, 0 ≤ v ∧ v < (T : Int)
  | 0, L, h => by
    obtain rfl : lineL T = L := by injection h
    intro v hv
    simp [lineL] at hv
    obtain ⟨j, hj, rfl⟩ := hv
    omega
  | k + 1, L, h => by
    cases hE : endsTo xs (lineL T) k with
    | none => rw [show endsTo xs (lineL T) (k + 1) = none from endsTo_none hE _ (Nat.le_succ k)] at h; cases h
    | some L' =>
      have ih := endsTo_rng xs T k L' hE
      cases hx : xs[k]? with
      | none =>
        have : endsTo xs (lineL T) (k + 1) = none := by
          show (endsTo xs (lineL T) k).bind _ = none
          rw [hE, hx]; rfl
        rw [this] at h; cases h
      | some x =>
        rw [endsTo_succ hE hx] at h
        unfold endStep at h
        split at h
        · rename_i a b ha hb
          split at h
          · injection h with h
            subst h
            intro v hv
            rcases List.mem_or_eq_of_mem_set hv with hv | rfl
            · rcases List.mem_or_eq_of_mem_set hv with hv | rfl
              · exact ih v hv
              · exact ih _ (mem_of_get hb)
            · exact ih _ (mem_of_get ha)
          · cases h
        · cases h
theorem endsTo_some {xs : List Q4} {L : List Int} {n : Nat} (h : (endsTo xs L n).isSome = true) {k : Nat} (hk : k ≤ n) : ∃ L', endsTo xs L k = some L' := by
  cases hE : endsTo xs L k with
  | none => rw [endsTo_none hE _ hk] at h; cases h
  | some L' => exact ⟨L', rfl⟩
theorem ends_rng {t : Int} {xs : List Q4} (h0 : 2 ≤ t) (h : endsOk t xs = true) : ∀ x ∈ xs, (0 ≤ x.c ∧ x.c < t) ∧ (0 ≤ x.d ∧ x.d < t) := fun x hm => by
  obtain ⟨k, hk⟩ := List.mem_iff_getElem?.1 hm
  have hlt := lt_of_get hk
  obtain ⟨L, hL⟩ := endsTo_some h (k := k) (by omega)
  obtain ⟨L', hL'⟩ := endsTo_some h (k := k + 1) (by omega)
  have hr := endsTo_rng xs t.toNat k L hL
  rw [endsTo_succ hL hk] at hL'
  unfold endStep at hL'
  split at hL'
  · rename_i a b ha hb
    split at hL'
    · rename_i hok
      have h1 := hr a (mem_of_get ha)
      have h2 := hr b (mem_of_get hb)
      unfold endOk at hok
      simp at hok
      omega
    · cases hL'
  · cases hL'
theorem ckE_ok {t : Int} {xs ps : List Q4} (h : ckE t xs ps = 0) : 2 ≤ t ∧ t ≤ 48 ∧ xs.length ≤ 20000 ∧ ps.length ≤ 6400 ∧ (∀ x ∈ xs, okC t x = true) ∧ (∀ x ∈ ps, okP t x = true) ∧ endsOk t xs = true := by
  unfold ckE at h
  split at h
  · cases h
  · rename_i h1
    split at h
    · cases h
    · rename_i h2
      split at h
      · cases h
      · rename_i h3
        obtain ⟨p1, p2, p3⟩ := numsOk_parts (t := t) (xs := xs) (ps := ps) (by simpa using h2)
        exact ⟨p1, by omega, by omega, by omega, p2, p3, by simpa using h3⟩
/-- what is known of each crossing of a cloth without error -/
theorem cross_ok {t : Int} {xs ps : List Q4} (h : ckE t xs ps = 0) : ∀ x ∈ xs, ((0 ≤ x.c ∧ x.c < t) ∧ (0 ≤ x.d ∧ x.d < t)) ∧ (0 ≤ x.b ∧ x.b ≤ t - 2) := fun x hm => by
  obtain ⟨h0, _, _, _, h1, _, h2⟩ := ckE_ok h
  refine ⟨ends_rng h0 h2 x hm, ?_⟩
  have := h1 x hm
  unfold okC at this
  simp at this
  omega
end Go.Proofs.Ytaenafcecfdffaa
/-
  Contracts of chapter 17: slices.Contains, the threads that are asked for.
-/
namespace Go.Proofs.Ytaenafcecfdffaa
open Go.RowKit
/-- a thread of the cloth -/
def inT (t n : Int) : Bool := decide (0 ≤ n) && decide (n ≤ t - 1)
/-- are the first k of some threads threads of the cloth, each but once? -/
def thTo (t : Int) (ths : List Int) : Nat → Bool
  | 0 => true
  | k + 1 => thTo t ths k && (match ths[k]? with | some x => inT t x && !(ths.take k).contains x | none => true)
def askE (t : Int) (xs ps : List Q4) (ths : List Int) : Int := if ckE t xs ps = 0 then (if thTo t ths ths.length = true then 0 else 2) else ckE t xs ps
theorem thTo_succ {t : Int} {ths : List Int} {k : Nat} {x : Int} (h : ths[k]? = some x) : thTo t ths (k + 1) = (thTo t ths k && (inT t x && !(ths.take k).contains x)) := by
  show (thTo t ths k && (match ths[k]? with | some x => inT t x && !(ths.take k).contains x | none => true)) = _
  rw [h]
theorem thTo_no {t : Int} {ths : List Int} {k : Nat} (h : thTo t ths k = false) : ∀ d, thTo t ths (k + d) = false
  | 0 => h
  | d + 1 => by
    have := thTo_no h d
    show (thTo t ths (k + d) && _) = false
    rw [this]; rfl
theorem thTo_bad {t : Int} {ths : List Int} {k : Nat} (h : thTo t ths k = false) (hk : k ≤ ths.length) : thTo t ths ths.length = false := by
  obtain ⟨d, hd⟩ : ∃ d, ths.length = k + d := ⟨ths.length - k, by omega⟩
  rw [hd]; exact thTo_no h d
theorem has_step {l : List Int} {k : Nat} {x v : Int} (hx : l[k]? = some x) : (l.take (k + 1)).contains v = ((l.take k).contains v || (v == x)) := by
  rw [List.take_add_one, hx]
  rw [Bool.eq_iff_iff]
  simp
theorem has_yes {l : List Int} {k : Nat} {x v : Int} (hx : l[k]? = some x) (h : v = x) : l.contains v = true := by
  rw [List.contains_iff_mem, h]; exact mem_of_get hx
theorem rdI_take {w : World} {B k : Nat} {A : Option Addr} {D : List Int} (h : RdI w B A D) : RdI w B A (D.take k) := fun j x hx => by
  have hj := lt_of_get hx
  rw [List.length_take] at hj
  rw [List.getElem?_take_of_lt (by omega)] at hx
  exact h j x hx
end Go.Proofs.Ytaenafcecfdffaa
/-
  Contracts of chapter 17: the crossings that all of some threads make; Follow and Meet.
-/
namespace Go.Proofs.Ytaenafcecfdffaa
open Go.RowKit
/-- does a crossing name a thread? -/
def ofP (x : Q4) (n : Int) : Bool := n == x.c || n == x.d
/-- which of the first k crossings name all of some threads -/
def ofTo (xs : List Q4) (ths : List Int) : Nat → List Int
  | 0 => []
  | k + 1 => match xs[k]? with
    | some x => if ths.all (ofP x) = true then ofTo xs ths k ++ [(k : Int)] else ofTo xs ths k
    | none => ofTo xs ths k
def ofR (t : Int) (xs ps : List Q4) (ths : List Int) : List Int := if askE t xs ps ths = 0 then ofTo xs ths xs.length else []
theorem ofTo_yes {xs : List Q4} {ths : List Int} {k : Nat} {x : Q4} (h : xs[k]? = some x) (ha : ths.all (ofP x) = true) : ofTo xs ths (k + 1) = ofTo xs ths k ++ [(k : Int)] := by
  show (match xs[k]? with | some x => if ths.all (ofP x) = true then ofTo xs ths k ++ [(k : Int)] else ofTo xs ths k | none => ofTo xs ths k) = _
  rw [h]; simp only [ha, if_true]
theorem ofTo_no {xs : List Q4} {ths : List Int} {k : Nat} {x : Q4} (h : xs[k]? = some x) (ha : ths.all (ofP x) = false) : ofTo xs ths (k + 1) = ofTo xs ths k := by
  show (match xs[k]? with | some x => if ths.all (ofP x) = true then ofTo xs ths k ++ [(k : Int)] else ofTo xs ths k | none => ofTo xs ths k) = _
  rw [h]; simp only [ha]; rfl
theorem allP_step {p : Int → Bool} {l : List Int} {k : Nat} {x : Int} (hx : l[k]? = some x) : (l.take (k + 1)).all p = ((l.take k).all p && p x) := by
  rw [List.take_add_one, hx]; simp
theorem allP_no {p : Int → Bool} {l : List Int} {k : Nat} {x : Int} (hx : l[k]? = some x) (h : p x = false) : l.all p = false := by
  rw [List.all_eq_false]; exact ⟨x, mem_of_get hx, by rw [h]; simp⟩
end Go.Proofs.Ytaenafcecfdffaa
/-
  Contracts of chapter 17: Follow and Meet of both packages.
-/
namespace Go.Proofs.Ytaenafcecfdffaa
open Go.RowKit
theorem rdI_lits (w : World) (l : List Int) : RdI (w.alloc (.cells (l.map vInt).toArray 3)) (w.alloc (.cells (l.map vInt).toArray 3)).heap.size (some ⟨w.heap.size, 0, none⟩) l := fun k x hx => by
  refine ⟨w.heap.size, 0, rfl, by simp, ?_⟩
  rw [Nat.zero_add, (Has.new rfl).cell, List.getElem?_map, hx]; rfl
theorem ask_one (t : Int) (xs ps : List Q4) (a : Int) : askE t xs ps [a] = if ckE t xs ps = 0 then (if inT t a = true then 0 else 2) else ckE t xs ps := by
  unfold askE
  have : thTo t [a] [a].length = inT t a := by simp [thTo]
  rw [this]
theorem ask_two (t : Int) (xs ps : List Q4) (a b : Int) : askE t xs ps [a, b] = if ckE t xs ps = 0 then (if inT t a = true ∧ inT t b = true ∧ a ≠ b then 0 else 2) else ckE t xs ps := by
  unfold askE
  have : (thTo t [a, b] [a, b].length = true) ↔ (inT t a = true ∧ inT t b = true ∧ a ≠ b) := by
    simp [thTo]
    intro _ _
    exact ⟨fun h e => h e.symm, fun h e => h e.symm⟩
  simp only [this]
theorem no_one {x : Q4} {a b : Int} (h1 : ¬ x.c = a) (h3 : ¬ x.d = a) : [a, b].all (ofP x) = false := by
  have q1 : ofP x a = false := by unfold ofP; simp; exact ⟨fun h => h1 h.symm, fun h => h3 h.symm⟩
  simp [q1]
theorem no_two {x : Q4} {a b : Int} (hab : a ≠ b) (h1 : ¬ x.c = a) (h2 : ¬ x.c = b) : [a, b].all (ofP x) = false := by
  by_cases h3 : x.d = a
  · have q1 : ofP x b = false := by unfold ofP; simp; exact ⟨fun h => h2 h.symm, fun h => hab (h3.symm.trans h.symm)⟩
    simp [q1]
  · exact no_one h1 h3
end Go.Proofs.Ytaenafcecfdffaa
/-
  Contract of chapter 17: Ends.
-/
namespace Go.Proofs.Ytaenafcecfdffaa
open Go.RowKit
def endsR (t : Int) (xs ps : List Q4) : List Int := if ckE t xs ps = 0 then (lineTo xs (lineL 48) xs.length).take t.toNat else []
theorem keepC_below {g B : Nat} {V W : World} (h : KeepC g V W) (hB : B ≤ g) (hV : B ≤ V.heap.size) : Below B V W := ⟨h.os, h.tape, h.output, h.size, fun i hi => h.same i (by omega) (by omega)⟩
theorem lineTo_next {xs : List Q4} {L : List Int} {k i : Nat} {x : Q4} {a b : Int} (h : xs[k]? = some x) (hi : x.b = (i : Int)) (ha : (lineTo xs L k)[i]? = some a) (hb : (lineTo xs L k)[i + 1]? = some b) : lineTo xs L (k + 1) = ((lineTo xs L k).set i b).set (i + 1) a := by
  show (match xs[k]? with | some x => swapL (lineTo xs L k) x | none => lineTo xs L k) = _
  rw [h]
  show swapL (lineTo xs L k) x = _
  unfold swapL
  rw [hi, show ((i : Nat) : Int).toNat = i by simp, List.getD_eq_getElem?_getD, List.getD_eq_getElem?_getD, ha, hb]; rfl
theorem rdI_hasC {w : World} {g : Nat} {t : TypeId} {L : List Int} (h : Has w g t (L.map vInt)) : RdI w w.heap.size (some ⟨g, 0, none⟩) L := fun k x hx => by
  refine ⟨g, 0, rfl, h.lt, ?_⟩
  rw [Nat.zero_add, h.cell, List.getElem?_map, hx]; rfl
end Go.Proofs.Ytaenafcecfdffaa
/-
  Memory words for cloth.Make: what holds of the cloth's block, the line's block and the two rows between two steps.
-/
namespace Go.Proofs.Ytaenafcecfdffaa
open Go.RowKit
theorem own_same {w w' : World} {base : Nat} {e : TypeId} {size n : Nat} {v : Value} {xs : List Value} (h : w.ownsRow base e size v n xs) (hs : ∀ g, v.ownBlock = some g → w'.heap[g]? = w.heap[g]?) : w'.ownsRow base e size v n xs := by
  refine ⟨h.1, ?_⟩
  rcases h.2 with hn | ⟨g, cap, cur, rfl, hb, hgg, rest⟩
  · exact .inl hn
  · exact .inr ⟨g, cap, cur, rfl, hb, (hs g rfl).trans hgg, rest⟩
theorem own_mono {w : World} {base base' : Nat} {e : TypeId} {size n : Nat} {v : Value} {xs : List Value} (h : w.ownsRow base e size v n xs) (hb : base' ≤ base) : w.ownsRow base' e size v n xs := by
  refine ⟨h.1, ?_⟩
  rcases h.2 with hn | ⟨g, cap, cur, rfl, hb2, rest⟩
  · exact .inl hn
  · exact .inr ⟨g, cap, cur, rfl, Nat.le_trans hb hb2, rest⟩
/-- a work's own blocks -/
structure MkJ (W : World) (bs gi gw gm : Nat) (i : Int) (x : Wk) (mid : Nat) : Prop where
  i : Has W gi 3 [.int .i64 i]
  w : Has W gw 86 (wkCells x)
  m : Has W gm 3 [.int .i64 (mid : Int)]
  li : bs ≤ gi
  lw : bs ≤ gw
  lm : bs ≤ gm
section
variable {V W W' : World} {gc gl bs : Nat} {t : Int} {s : Mk} {X P : Option Addr} {nx cx np cp : Nat} {gi gw gm : Nat} {i : Int} {x : Wk} {mid : Nat}
theorem MkJ.below (h : MkJ W bs gi gw gm i x mid) (k : Below W.heap.size W W') : MkJ W' bs gi gw gm i x mid :=
  ⟨h.i.below k h.i.lt, h.w.below k h.w.lt, h.m.below k h.m.lt, h.li, h.lw, h.lm⟩
end
/-! ### counts -/
theorem crT_len (v : List Int) : ∀ k, (crT v k).length ≤ k
  | 0 => Nat.le_refl _
  | k + 1 => by
    have := crT_len v k
    unfold crT
    split <;> simp <;> omega
theorem crW_len (bs : List UInt8) : ∀ i, (crW bs i).length ≤ 3 * i
  | 0 => Nat.le_refl _
  | i + 1 => by
    have := crW_len bs i
    unfold crW
    split
    · have := crT_len (twV ‹UInt8›) 3
      rw [List.length_append]; omega
    · omega
theorem crT_mem {v : List Int} (hv : ∀ u ∈ v, -1 ≤ u ∧ u ≤ 1) : ∀ k, k ≤ 3 → ∀ n ∈ crT v k, n ≠ 0 ∧ -3 ≤ n ∧ n ≤ 3
  | 0, _, n, h => by simp [crT] at h
  | k + 1, hk, n, h => by
    unfold crT at h
    split at h
    · exact crT_mem hv k (by omega) n h
    · rename_i h0
      rw [List.mem_append] at h
      rcases h with h | h
      · exact crT_mem hv k (by omega) n h
      · simp only [List.mem_singleton] at h
        have hb : -1 ≤ v.getD k 0 ∧ v.getD k 0 ≤ 1 := by
          rw [List.getD_eq_getElem?_getD]
          cases hg : v[k]? with
          | none => simp
          | some u => exact hv u (mem_of_get hg)
        generalize v.getD k 0 = u at *
        have hu : u = 1 ∨ u = -1 := by omega
        rcases hu with rfl | rfl <;> omega
theorem crL_mem (c : UInt8) : ∀ n ∈ crW [c] 1, n ≠ 0 ∧ -3 ≤ n ∧ n ≤ 3 := fun n h => by
  have e : crW [c] 1 = crT (twV c) 3 := rfl
  rw [e] at h
  exact crT_mem (twV_le c) 3 (Nat.le_refl _) n h
theorem Mk.crosses_xs (s : Mk) (i : Int) (mid : Nat) (ns : List Int) : ∀ k, (s.crosses i mid ns k).xs.length ≤ s.xs.length + k
  | 0 => Nat.le_refl _
  | k + 1 => by
    have := Mk.crosses_xs s i mid ns k
    unfold Mk.crosses
    split
    · unfold Mk.cross; simp; omega
    · omega
theorem Mk.crosses_ps (s : Mk) (i : Int) (mid : Nat) (ns : List Int) : ∀ k, (s.crosses i mid ns k).ps = s.ps
  | 0 => rfl
  | k + 1 => by
    unfold Mk.crosses
    split
    · exact Mk.crosses_ps s i mid ns k
    · exact Mk.crosses_ps s i mid ns k
theorem Mk.letter_xs (s : Mk) (i : Int) (mid : Nat) (c : UInt8) : (s.letter i mid c).xs.length ≤ s.xs.length + 3 := by
  unfold Mk.letter
  split
  · exact Nat.le_add_right _ _
  · have := Mk.crosses_xs s i mid (crW [c] 1) (crW [c] 1).length
    have := crW_len [c] 1
    omega
theorem Mk.letter_ps (s : Mk) (i : Int) (mid : Nat) (c : UInt8) : (s.letter i mid c).ps.length ≤ s.ps.length + 1 := by
  unfold Mk.letter
  split
  · unfold Mk.pin; simp
  · rw [Mk.crosses_ps]; exact Nat.le_succ _
theorem Mk.letters_xs (s : Mk) (i : Int) (mid : Nat) (bs : List UInt8) : ∀ k, (s.letters i mid bs k).xs.length ≤ s.xs.length + 3 * k
  | 0 => Nat.le_refl _
  | k + 1 => by
    have := Mk.letters_xs s i mid bs k
    unfold Mk.letters
    split
    · have := Mk.letter_xs (s.letters i mid bs k) i mid ‹UInt8›; omega
    · omega
theorem Mk.letters_ps (s : Mk) (i : Int) (mid : Nat) (bs : List UInt8) : ∀ k, (s.letters i mid bs k).ps.length ≤ s.ps.length + k
  | 0 => Nat.le_refl _
  | k + 1 => by
    have := Mk.letters_ps s i mid bs k
    unfold Mk.letters
    split
    · have := Mk.letter_ps (s.letters i mid bs k) i mid ‹UInt8›; omega
    · omega
theorem Mk.works_xs {ws : List Wk} (h : ∀ x ∈ ws, x.word.size ≤ 16) : ∀ k, (Mk.works ws k).xs.length ≤ 48 * k ∧ (Mk.works ws k).ps.length ≤ 17 * k
  | 0 => ⟨Nat.le_refl _, Nat.le_refl _⟩
  | k + 1 => by
    have ih := Mk.works_xs h k
    unfold Mk.works
    split
    · rename_i x hx
      have h16 : x.word.data.toList.length ≤ 16 := by rw [str_len]; exact h x (mem_of_get hx)
      unfold Mk.work
      split
      · have h1 := Mk.letters_xs ((Mk.works ws k).pin (k : Int) (mkMid x)) (k : Int) (mkMid x) x.word.data.toList x.word.data.toList.length
        have h2 := Mk.letters_ps ((Mk.works ws k).pin (k : Int) (mkMid x)) (k : Int) (mkMid x) x.word.data.toList x.word.data.toList.length
        have e1 : ((Mk.works ws k).pin (k : Int) (mkMid x)).xs.length = (Mk.works ws k).xs.length := rfl
        have e2 : ((Mk.works ws k).pin (k : Int) (mkMid x)).ps.length = (Mk.works ws k).ps.length + 1 := by unfold Mk.pin; simp
        omega
      · have h1 := Mk.letters_xs (Mk.works ws k) (k : Int) (mkMid x) x.word.data.toList x.word.data.toList.length
        have h2 := Mk.letters_ps (Mk.works ws k) (k : Int) (mkMid x) x.word.data.toList x.word.data.toList.length
        omega
    · omega
theorem Mk.works_succ {ws : List Wk} {k : Nat} {x : Wk} (h : ws[k]? = some x) : Mk.works ws (k + 1) = (Mk.works ws k).work k x := by
  show (match ws[k]? with | some x => (Mk.works ws k).work k x | none => Mk.works ws k) = _
  rw [h]
theorem Mk.letters_succ {s : Mk} {i : Int} {mid : Nat} {bs : List UInt8} {k : Nat} {c : UInt8} (h : bs[k]? = some c) : s.letters i mid bs (k + 1) = (s.letters i mid bs k).letter i mid c := by
  show (match bs[k]? with | some c => (s.letters i mid bs k).letter i mid c | none => s.letters i mid bs k) = _
  rw [h]
theorem Mk.crosses_succ {s : Mk} {i : Int} {mid : Nat} {ns : List Int} {k : Nat} {n : Int} (h : ns[k]? = some n) : s.crosses i mid ns (k + 1) = (s.crosses i mid ns k).cross i mid n := by
  show (match ns[k]? with | some n => (s.crosses i mid ns k).cross i mid n | none => s.crosses i mid ns k) = _
  rw [h]
theorem Mk.pin_eq {s : Mk} {i : Int} {mid : Nat} {la lb : Int} (ha : s.l[mid]? = some la) (hb : s.l[mid + 1]? = some lb) : s.pin i mid = { s with ps := s.ps ++ [⟨i, (mid : Int), la, lb⟩] } := by
  unfold Mk.pin
  rw [List.getD_eq_getElem?_getD, List.getD_eq_getElem?_getD, ha, hb]; rfl
theorem slice1 (s : ByteArray) (j : Nat) (h : j < s.size) (W : World) : (Instr.slice 9 (.string s) (some (.int .i64 (j : Int))) (some (.int .i64 ((j : Int) + 1))) none).run Try.prog W = .ok (.string (s.extract j (j + 1))) W := by
  have e := run_slice_string (P := Try.prog) (w := W) 9 s .i64 .i64 (j : Int) ((j : Int) + 1) Try.underlying9 (by omega) (by omega) (by omega)
  rw [e]
  have h1 : ((j : Int)).toNat = j := by omega
  have h2 : ((j : Int) + 1).toNat = j + 1 := by omega
  rw [h1, h2]
theorem ext_ok {s : ByteArray} {j : Nat} (h : j < s.size) (hl : isLet s[j] = true) : (s.extract j (j + 1)).size = 1 ∧ wOk (s.extract j (j + 1)) = true := by
  have e := ext_one s j h
  refine ⟨?_, ?_⟩
  · rw [← str_len, e]; rfl
  · unfold wOk; rw [e]; simp [hl]
set_option maxRecDepth 100000 in
theorem crossings39o (s : ByteArray) (w : World) (hs : s.size ≤ 16) (hok : wOk s = true) :
    Calls Try.prog 36 #[.string s] w fun e w' => ∃ A n c, e = .returned (.tuple #[.slice A n c, .int .i64 0]) ∧ w'.ownsRow w.heap.size 3 1 (.slice A n c) n ((crW s.data.toList s.size).map vInt) ∧ (crW s.data.toList s.size).length = n ∧ Below w.heap.size w w' := by
  have C1 := Lib.hid (stCheck s w (by omega))
  rw [wchk_ok hs hok] at C1
  have C2 := Lib.hid (crossings62 s w hs hok)
  clear hok
  go_enter Try.func36, Try.ntmps36
  go_wp2_with fail
  refine C1.out.mono ?_
  rintro e w' ⟨rfl, rfl⟩
  go_wp2_with fail
  refine C2.out.mono ?_
  rintro e w2 ⟨A2, n2, c2, rfl, r2, l2, hb2⟩
  have HR := Lib.hid r2; clear r2
  go_wp2
  go_ret2
  exact ⟨A2, n2, c2, rfl, HR.out, l2, hb2⟩
theorem Mk.cross_eq {s : Mk} {i : Int} {mid t : Nat} {u la lb : Int} (h : mkAt mid u = (t : Int)) (ha : s.l[t]? = some la) (hb : s.l[t + 1]? = some lb) : s.cross i mid u = ⟨(s.l.set t lb).set (t + 1) la, s.xs ++ [if u < 0 then ⟨i, (t : Int), lb, la⟩ else ⟨i, (t : Int), la, lb⟩], s.ps⟩ := by
  have ht : ((t : Nat) : Int).toNat = t := by simp
  have e : mkX s.l i mid u = if u < 0 then ⟨i, (t : Int), lb, la⟩ else ⟨i, (t : Int), la, lb⟩ := by
    unfold mkX
    rw [h, ht, List.getD_eq_getElem?_getD, List.getD_eq_getElem?_getD, ha, hb]; rfl
  have e2 : (mkX s.l i mid u).b = (t : Int) := by rw [e]; split <;> rfl
  unfold Mk.cross swapL
  rw [e2, ht, List.getD_eq_getElem?_getD, List.getD_eq_getElem?_getD, ha, hb, e]; rfl
theorem news4 (w : World) (a b c d : Value) (t : TypeId) : ∀ j u, ([a, b, c, d] : List Value)[j]? = some u → (w.alloc (.cells #[a, b, c, d] t)).cell? ⟨w.heap.size, j, none⟩ = some u := fun j _ hu => ((Has.new (w := w) (t := t) (cs := [a, b, c, d]) rfl).cell j).trans hu
theorem one4 (a b c d : Int) : ∀ u ∈ [vInt a, vInt b, vInt c, vInt d], u.oneCell' = true := fun u hu => by
  simp only [List.mem_cons, List.not_mem_nil, or_false] at hu
  rcases hu with rfl | rfl | rfl | rfl <;> rfl
theorem infoCr : (Try.prog.info? 47).map (fun i => (i.zero, i.size, i.bytes)) = some (some (.agg #[.int .i64 0, .int .i64 0, .int .i64 0, .int .i64 0]), 4, 32) := by kernel_rfl
end Go.Proofs.Ytaenafcecfdffaa
/-
  Contracts of the functions of torchonref03 (words of moves) that look at letters.
-/
namespace Go.Proofs.Ytaenafcecfdffaa
open Go.RowKit
set_option maxHeartbeats 400000 in
theorem index03 (s : ByteArray) (c : UInt8) (w : World) (hs : s.size ≤ 1000) :
    Calls Try.prog 86 #[.string s, .int .u8 c.toNat] w fun e w' => e = .returned (.int .i64 (idxOf s.data.toList c)) ∧ w = w' := by
  go_enter Try.func86, Try.ntmps86
  go_wp2
  go_loop [5] (fun i => ∃ k : Nat, k ≤ s.size ∧ i = .int .i64 k ∧ ∀ j, j < k → s.data.toList[j]? ≠ some c) (fun i => s.size - (intOf i).toNat)
  case atStart => exact ⟨0, Nat.zero_le _, rfl, fun j hj => absurd hj (by omega)⟩
  case round =>
    obtain ⟨k, hk, rfl, hno⟩ := hrel
    have H := Lib.hid hno; clear hno
    by_cases hlt : k < s.size
    · go_wp2
      · go_ret
        exact ⟨ret_int (idxOf_some (idx_split ((str_get s k hlt).trans (congrArg some (byte_eq (by assumption)))) H.out)).symm, rfl⟩
      · go_round
        case rel => exact ⟨k + 1, by omega, by go_num, fun j hj => by
          rcases Nat.lt_or_ge j k with h | h
          · exact H.out j h
          · obtain rfl : j = k := by omega
            rw [str_get s j hlt]
            intro he
            exact byte_ne (by assumption) (Option.some.inj he)⟩
        case measure => simp [intOf]; omega
    · go_wp2
      go_ret
      exact ⟨ret_int (idxOf_none (idx_none fun j hj => H.out j (by rw [str_len] at hj; omega))).symm, rfl⟩

theorem index03_let (c : UInt8) (w : World) :
    Calls Try.prog 86 #[.string ⟨#[67, 84, 76, 82, 80, 99, 116, 108, 114]⟩, .int .u8 c.toNat] w fun e w' => e = .returned (.int .i64 (idxOf letters c)) ∧ w = w' :=
  index03 ⟨#[67, 84, 76, 82, 80, 99, 116, 108, 114]⟩ c w (by decide)

set_option maxHeartbeats 400000 in
theorem check03 (s : ByteArray) (w : World) (hs : s.size ≤ 9223372036854775807) :
    Calls Try.prog 80 #[.string s] w fun e w' => e = .returned (.int .i64 (wchk s)) ∧ w = w' := by
  by_cases hl : 16 < s.size
  · go_enter Try.func80, Try.ntmps80
    go_wp2
    go_ret
    exact ⟨ret_int (wchk_long hl).symm, rfl⟩
  have hl' : s.size ≤ 16 := by omega
  go_enter Try.func80, Try.ntmps80
  go_wp2
  go_loop [3] (fun i => ∃ k : Nat, k ≤ s.size ∧ i = .int .i64 k ∧ ∀ j, ∀ hj : j < s.size, j < k → isLet s[j] = true) (fun i => s.size - (intOf i).toNat)
  case atStart => exact ⟨0, Nat.zero_le _, rfl, fun j _ hj => absurd hj (by omega)⟩
  case round =>
    obtain ⟨k, hk, rfl, hno⟩ := hrel
    have H := Lib.hid hno; clear hno
    by_cases hlt : k < s.size
    · by_cases hc : 0 ≤ idxOf letters s[k]
      · go_wp2_with (go_at_call 86; refine (index03_let _ _).mono ?_; rintro e w' ⟨rfl, rfl⟩)
        go_round
        case rel => exact ⟨k + 1, by omega, by go_num, fun j hs' hj => by
          rcases Nat.lt_or_ge j k with h | h
          · exact H.out j hs' h
          · obtain rfl : j = k := by omega
            exact (isLet_iff _).2 hc⟩
        case measure => simp [intOf]; omega
      · have hc' : idxOf letters s[k] < 0 := by omega
        go_wp2_with (go_at_call 86; refine (index03_let _ _).mono ?_; rintro e w' ⟨rfl, rfl⟩)
        go_ret
        exact ⟨ret_int (wchk_bad hl' (wOk_not hlt (idx_no hc'))).symm, rfl⟩
    · go_wp2
      go_ret
      exact ⟨ret_int (wchk_ok hl' (wOk_of fun j hj => H.out j hj (by omega))).symm, rfl⟩

end Go.Proofs.Ytaenafcecfdffaa
/-
  Contracts of torchonref04: Check, Touch, Same, SameInts.
-/
namespace Go.Proofs.Ytaenafcecfdffaa
open Go.RowKit
set_option maxHeartbeats 1000000 in
theorem check04 (p : Int) (A : Option Addr) (n c : Nat) (ws : List Wk) (w : World) (hn : n ≤ 9223372036854775807) (hw : RdW w w.heap.size A ws) (hl : ws.length = n)
    (hs : ∀ x ∈ ws, x.word.size ≤ 9223372036854775807) :
    Calls Try.prog 61 #[.agg #[.int .i64 p, .slice A n c]] w fun e w' => e = .returned (.int .i64 (schk p ws)) ∧ Below w.heap.size w w' := by
  have HW := Lib.hid hw; clear hw
  have HL := Lib.hid hl; clear hl
  have HS := Lib.hid hs; clear hs
  by_cases hp : 24 < p
  · go_enter Try.func61, Try.ntmps61
    go_wp2
    go_ret
    exact ⟨ret_int (schk_long (.inl hp)).symm, by go_grown⟩
  by_cases hn4 : 400 < n
  · go_enter Try.func61, Try.ntmps61
    go_wp2
    go_ret
    exact ⟨ret_int (schk_long (.inr (.inl (by rw [HL.out]; exact hn4)))).symm, by go_grown⟩
  have hp' : p ≤ 24 := by omega
  have hn4' : n ≤ 400 := by omega
  clear hp hn4
  go_enter Try.func61, Try.ntmps61
  go_wp2
  go_loop [3] (fun i => ∃ k : Nat, k ≤ n ∧ i = .int .i64 k ∧ ∀ (j : Nat) (x : Wk), j < k → ws[j]? = some x → x.word.size ≤ 16) (fun i => n - (intOf i).toNat)
  case atStart => exact ⟨0, Nat.zero_le _, rfl, fun j _ hj => absurd hj (by omega)⟩
  case round =>
    obtain ⟨k, hk, rfl, hno⟩ := hrel
    have H := Lib.hid hno; clear hno
    by_cases hlt : k < n
    · obtain ⟨x, hx⟩ := get_of_lt (l := ws) (k := k) (by rw [HL.out]; exact hlt)
      obtain ⟨b, o, rfl, hb, c1, c2, c3⟩ := HW.out k x hx
      have hsx := HS.out x (mem_of_get hx)
      have HX := Lib.hid hx; clear hx
      by_cases h16 : 16 < x.word.size
      · go_wp2
        go_ret
        exact ⟨ret_int (schk_long (.inr (.inr ⟨k, x, HX.out, h16⟩))).symm, by go_grown⟩
      · go_wp2
        go_round
        case rel => exact ⟨k + 1, by omega, by go_num, fun j y hj hy => by
          rcases Nat.lt_or_ge j k with h | h
          · exact H.out j y h hy
          · obtain rfl : j = k := by omega
            rw [HX.out] at hy
            obtain rfl := Option.some.inj hy
            omega⟩
        case measure => simp [intOf]; omega
    · have H16 : Hid (∀ (j : Nat) (x : Wk), ws[j]? = some x → x.word.size ≤ 16) := fun j x hx => H.out j x (by have := lt_of_get hx; rw [HL.out] at this; omega) hx
      clear H
      by_cases h2 : p < 2
      · go_wp2
        go_ret
        exact ⟨ret_int (schk_arg hp' (by rw [HL.out]; exact hn4') H16.out (.inl h2)).symm, by go_grown⟩
      have h2' : 2 ≤ p := by omega
      clear h2
      go_wp2
      go_loopw [4, 5] (fun i _ wr => ∃ k : Nat, k ≤ n ∧ i = .int .i64 k ∧ Below w.heap.size w wr ∧ wr.cell? ⟨w.heap.size, 0, none⟩ = some (.int .i64 p) ∧ wr.cell? ⟨w.heap.size, 1, none⟩ = some (.slice A n c) ∧ w.heap.size < wr.heap.size ∧ (∀ (j : Nat) (x : Wk), j < k → ws[j]? = some x → wkBad p x = false)) (fun i _ _ => n - (intOf i).toNat)
      case atStart => exact ⟨0, Nat.zero_le _, rfl, by go_grown, by go_simp, by go_simp, by go_grown, fun j _ hj => absurd hj (by omega)⟩
      case round =>
        obtain ⟨k, hk, rfl, hbw, d0, d1, hz, hno⟩ := hrel
        have H := Lib.hid hno; clear hno
        by_cases hlt : k < n
        · obtain ⟨x, hx⟩ := get_of_lt (l := ws) (k := k) (by rw [HL.out]; exact hlt)
          obtain ⟨b, o, rfl, hb, c1, c2, c3⟩ := (HW.out.below hbw (Nat.le_refl _)) k x hx
          have HX := Lib.hid hx; clear hx
          go_wp2
          all_goals first
            | (go_roundw
               case rel => exact ⟨k + 1, by omega, by go_num, by go_grown, by go_simp, by go_simp, by go_grown, get_step H.out HX.out (wkGood_of (by first | exact .inl ‹_› | exact .inr ⟨‹_›, ‹_›⟩) ‹_› ‹_›)⟩
               case measure => simp [intOf]; omega)
            | (go_ret
               exact ⟨ret_int (schk_arg hp' (by rw [HL.out]; exact hn4') H16.out (.inr ⟨k, x, HX.out, wkBad_of (by first | exact .inl ⟨‹_›, ‹_›⟩ | exact .inr (.inl ‹_›) | exact .inr (.inr (.inl ‹_›)) | exact .inr (.inr (.inr ⟨‹_›, ‹_›⟩)))⟩)).symm, by go_grown⟩)
        · have HB : Hid (∀ (j : Nat) (x : Wk), ws[j]? = some x → wkBad p x = false) := get_all H.out (by rw [HL.out]; omega)
          clear H
          go_wp2
          go_loopw [6] (fun i wr => ∃ k : Nat, k ≤ n ∧ i = .int .i64 k ∧ Below w.heap.size w wr ∧ wr.cell? ⟨w.heap.size, 0, none⟩ = some (.int .i64 p) ∧ wr.cell? ⟨w.heap.size, 1, none⟩ = some (.slice A n c) ∧ w.heap.size < wr.heap.size ∧ (∀ (j : Nat) (x : Wk), j < k → ws[j]? = some x → wOk x.word = true)) (fun i _ => n - (intOf i).toNat)
          case atStart => exact ⟨0, Nat.zero_le _, rfl, hbw, d0, d1, hz, fun j _ hj => absurd hj (by omega)⟩
          case round =>
            clear hbw d0 d1 hz
            obtain ⟨k, hk, rfl, hbw, d0, d1, hz, hno⟩ := hrel
            have H := Lib.hid hno; clear hno
            by_cases hlt : k < n
            · obtain ⟨x, hx⟩ := get_of_lt (l := ws) (k := k) (by rw [HL.out]; exact hlt)
              obtain ⟨b, o, rfl, hb, c1, c2, c3⟩ := (HW.out.below hbw (Nat.le_refl _)) k x hx
              have hsx := HS.out x (mem_of_get hx)
              have h16 := H16.out k x hx
              have HX := Lib.hid hx; clear hx
              by_cases hwx : wOk x.word = true
              · have hc0 := Lib.hid (wchk_ok h16 hwx)
                have hwx' := Lib.hid hwx; clear hwx
                go_wp2_with (go_at_call 80; refine (check03 _ _ hsx).mono ?_; rintro e w' ⟨rfl, rfl⟩; rw [hc0.out])
                go_roundw
                case rel => exact ⟨k + 1, by omega, by go_num, hbw, d0, d1, hz, get_step H.out HX.out hwx'.out⟩
                case measure => simp [intOf]; omega
              · have hwx2 : wOk x.word = false := by simpa using hwx
                have hc0 := Lib.hid (wchk_bad h16 hwx2)
                clear hwx
                have hwx' := Lib.hid hwx2; clear hwx2
                go_wp2_with (go_at_call 80; refine (check03 _ _ hsx).mono ?_; rintro e w' ⟨rfl, rfl⟩; rw [hc0.out])
                go_ret
                exact ⟨ret_int (schk_bad hp' (by rw [HL.out]; exact hn4') H16.out h2' HB.out ⟨k, x, HX.out, hwx'.out⟩).symm, hbw⟩
            · go_wp2
              go_ret
              exact ⟨ret_int (schk_ok hp' (by rw [HL.out]; exact hn4') H16.out h2' HB.out (get_all H.out (by rw [HL.out]; omega))).symm, hbw⟩
end Go.Proofs.Ytaenafcecfdffaa
/-
  Contracts of chapter 16: whether hands can have a span, the shape of a step, whether a pillow was made.
-/
namespace Go.Proofs.Ytaenafcecfdffaa
open Go.RowKit
def spB (p s : Int) : Bool := decide (2 ≤ s ∧ s ≤ 8 ∧ s ≤ p)
set_option maxRecDepth 100000 in
set_option maxHeartbeats 400000 in
theorem spansC (p s : Int) (w : World) : Calls Try.prog 66 #[.int .i64 p, .int .i64 s] w fun e w' => e = .returned (.bool (spB p s)) ∧ w = w' := by
  by_cases h1 : 2 ≤ s
  · by_cases h2 : s ≤ 8
    · by_cases h3 : s ≤ p
      · have e : spB p s = true := decide_eq_true ⟨h1, h2, h3⟩
        rw [e]
        clear e
        go_enter Try.func66, Try.ntmps66
        go_wp2
        all_goals go_ret
        all_goals exact ⟨by first | rfl | exact ret_bool (decide_eq_true (by omega)) | exact ret_bool (decide_eq_false (by omega)), rfl⟩
      · have e : spB p s = false := decide_eq_false (fun h => h3 h.2.2)
        rw [e]
        clear e
        go_enter Try.func66, Try.ntmps66
        go_wp2
        all_goals go_ret
        all_goals exact ⟨by first | rfl | exact ret_bool (decide_eq_true (by omega)) | exact ret_bool (decide_eq_false (by omega)), rfl⟩
    · have e : spB p s = false := decide_eq_false (fun h => h2 h.2.1)
      rw [e]
      clear e
      go_enter Try.func66, Try.ntmps66
      go_wp2
      all_goals go_ret
      all_goals exact ⟨by first | rfl | exact ret_bool (decide_eq_true (by omega)) | exact ret_bool (decide_eq_false (by omega)), rfl⟩
  · have e : spB p s = false := decide_eq_false (fun h => h1 h.1)
    rw [e]
    clear e
    go_enter Try.func66, Try.ntmps66
    go_wp2
    all_goals go_ret
    all_goals exact ⟨by first | rfl | exact ret_bool (decide_eq_true (by omega)) | exact ret_bool (decide_eq_false (by omega)), rfl⟩
set_option maxRecDepth 100000 in
set_option maxHeartbeats 400000 in
theorem spans15 (p s : Int) (w : World) : Calls Try.prog 62 #[.int .i64 p, .int .i64 s] w fun e w' => e = .returned (.bool (spB p s)) ∧ w = w' := by
  by_cases h1 : 2 ≤ s
  · by_cases h2 : s ≤ 8
    · by_cases h3 : s ≤ p
      · have e : spB p s = true := decide_eq_true ⟨h1, h2, h3⟩
        rw [e]
        clear e
        go_enter Try.func62, Try.ntmps62
        go_wp2
        go_ret
        exact ⟨rfl, rfl⟩
      · have e : spB p s = false := decide_eq_false (fun h => h3 h.2.2)
        rw [e]
        clear e
        go_enter Try.func62, Try.ntmps62
        go_wp2
        go_ret
        exact ⟨rfl, rfl⟩
    · have e : spB p s = false := decide_eq_false (fun h => h2 h.2.1)
      rw [e]
      clear e
      go_enter Try.func62, Try.ntmps62
      go_wp2
      go_ret
      exact ⟨rfl, rfl⟩
  · have e : spB p s = false := decide_eq_false (fun h => h1 h.1)
    rw [e]
    clear e
    go_enter Try.func62, Try.ntmps62
    go_wp2
    go_ret
    exact ⟨rfl, rfl⟩
def heldB (h s a : Int) : Bool := decide (0 ≤ h ∧ h ≤ a ∧ a + 2 ≤ h + s)
set_option maxRecDepth 100000 in
set_option maxHeartbeats 400000 in
theorem held15 (h s a : Int) (w : World) (hs : 0 ≤ s ∧ s ≤ 8) (ha : -1000 ≤ a ∧ a ≤ 1000) (hh : h ≤ 1000) : Calls Try.prog 63 #[.int .i64 h, .int .i64 s, .int .i64 a] w fun e w' => e = .returned (.bool (heldB h s a)) ∧ w = w' := by
  by_cases h1 : 0 ≤ h
  · by_cases h2 : h ≤ a
    · have i1 : IntKind.i64.wrap (a + 2) = a + 2 := IntWalk.i64_in _ (by omega)
      have i2 : IntKind.i64.wrap (h + s) = h + s := IntWalk.i64_in _ (by omega)
      by_cases h3 : a + 2 ≤ h + s
      · have e : heldB h s a = true := decide_eq_true ⟨h1, h2, h3⟩
        rw [e]
        clear e
        go_enter Try.func63, Try.ntmps63
        go_wp2
        go_ret
        exact ⟨rfl, rfl⟩
      · have e : heldB h s a = false := decide_eq_false (fun h => h3 h.2.2)
        rw [e]
        clear e
        go_enter Try.func63, Try.ntmps63
        go_wp2
        go_ret
        exact ⟨rfl, rfl⟩
    · have e : heldB h s a = false := decide_eq_false (fun h => h2 h.2.1)
      rw [e]
      clear e
      go_enter Try.func63, Try.ntmps63
      go_wp2
      go_ret
      exact ⟨rfl, rfl⟩
  · have e : heldB h s a = false := decide_eq_false (fun h => h1 h.1)
    rw [e]
    clear e
    go_enter Try.func63, Try.ntmps63
    go_wp2
    go_ret
    exact ⟨rfl, rfl⟩
def shapeB (k : Int) (s : ByteArray) : Bool := if k = 1 ∨ k = 3 then s.size == 0 else k == 2
set_option maxRecDepth 100000 in
set_option maxHeartbeats 400000 in
theorem shapedC (k a : Int) (s : ByteArray) (w : World) : Calls Try.prog 67 #[.agg #[.int .i64 k, .int .i64 a, .string s]] w fun e w' => e = .returned (.bool (shapeB k s)) ∧ Below w.heap.size w w' := by
  by_cases h1 : k = 1
  · subst h1
    go_enter Try.func67, Try.ntmps67
    go_wp2
    go_ret
    exact ⟨ret_bool empty_iff, by go_grown⟩
  by_cases h3 : k = 3
  · subst h3
    go_enter Try.func67, Try.ntmps67
    go_wp2
    go_ret
    exact ⟨ret_bool empty_iff, by go_grown⟩
  have e : shapeB k s = (k == 2) := by unfold shapeB; rw [if_neg (by omega)]
  rw [e]
  clear e
  go_enter Try.func67, Try.ntmps67
  go_wp2
  go_ret
  exact ⟨rfl, by go_grown⟩
end Go.Proofs.Ytaenafcecfdffaa
