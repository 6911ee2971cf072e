/-
  Append of a whole slice of ints to a row of the call's own; slices.Clone.
-/
import Derived.Test.YtpljaoagiaijiaaV1
import Derived.Test.YtpljaoagiaijiaaV3
import Derived.Test.YtpljaoagiaijiaaV5
import Derived.Laws.Cover3
namespace Go.Proofs.Ytpljaoagiaijiaa
open Go.RowKit
theorem run_app0 {P : Program} (w : World) (t ty e : TypeId) (i : TypeInfo) (ht : P.underlying t = some (.slice e)) (hi : P.info? e = some i) (B : Option Addr) (n d c : Nat) (h : n ≤ d) :
    (Builtin.append_ #[t, t] ty #[.slice B n d, .slice none 0 c]).run P w = .ok (.slice B n d) w := by
  cases B <;> simp [Builtin.append_, run_underlying ht, sizeOf, typeInfo, hi, Builtin.lenOf, Builtin.firstCells, h, storeCells]
theorem rdI_news {w : World} {B b o : Nat} {ds : List Int} (h : RdI w B (some ⟨b, o, none⟩) ds) : ∀ j u, (ds.map vInt)[j]? = some u → w.cell? ((⟨b, o, none⟩ : Addr).add j) = some u := fun j u hu => by
  rw [List.getElem?_map] at hu
  cases hx : ds[j]? with
  | none => rw [hx] at hu; cases hu
  | some x =>
    rw [hx] at hu
    injection hu with hu
    obtain ⟨b', o', e, _, c0⟩ := h j x hx
    injection e with e; injection e with e1 e2
    subst e1 e2
    rw [Addr.add_lit, ← hu]; exact c0
theorem one_ints (ds : List Int) : ∀ u ∈ ds.map vInt, u.oneCell' = true := fun u hu => by
  obtain ⟨x, _, rfl⟩ := List.mem_map.1 hu; rfl
theorem wpList_appI {w : World} {ops : Array Oper} {rest : List Oper} {o : Oper} {a : Act} {Q : Exit → Act → World → Prop} (hgd : o.guard = none) (s x : Operand)
    (ho : o.op = .call { callee := .builtin .append, args := #[s, x], argTypes := #[35, 35] })
    (base : Nat) (v : Value) (n : Nat) (xs : List Int) (hs : a.eval s = v) (hown : w.ownsRow base 3 1 v n (xs.map vInt))
    (A : Option Addr) (m c : Nat) (ds : List Int) (hx : a.eval x = .slice A m c) (hr : RdI w w.heap.size A ds) (hl : ds.length = m)
    (hn : n + m ≤ 1000000000) (hbase : base ≤ w.heap.size)
    (h : ∀ A' c' w', w'.ownsRow base 3 1 (.slice A' (n + m) c') (n + m) ((xs ++ ds).map vInt) → w.grownBy w' v.ownBlock → wpList Try.prog ops Q rest (a.put o.dst (.slice A' (n + m) c')) w') :
    wpList Try.prog ops Q (o :: rest) a w := by
  refine wpList_plain hgd fun K hK => ?_
  cases A with
  | none =>
    have hw0 : ds = [] := by
      cases ds with
      | nil => rfl
      | cons y ws => obtain ⟨b, o', e, _⟩ := hr 0 y rfl; cases e
    subst hw0
    obtain rfl : 0 = m := hl
    obtain ⟨B, d, rfl⟩ := own_form hown
    obtain ⟨i, hi, hz, hsize, hb⟩ := info_parts infoInt
    have hcc := own_caps hown
    have hrun := run_app0 (P := Try.prog) w 35 o.type 3 i Try.underlying35 hi B n d c hcc.1
    unfold Oper.wp execOp
    simp only [ho, resolve, invoke, builtin, Sem.run_bind, Sem.run_pure, Result.andThen_ok, List.map_toArray, List.map_cons, List.map_nil, hs, hx, hrun]
    exact hK _ _ (h B d w (by rw [List.append_nil]; exact hown) ⟨rfl, rfl, rfl, Nat.le_refl _, fun _ _ _ => rfl⟩)
  | some ad =>
    refine wp_appN s x 35 ho base 3 (.int .i64 0) 1 8 Try.underlying35 infoInt rfl (by omega) (by omega) v n (xs.map vInt) hs hown ad m c (ds.map vInt) hx (by rw [List.length_map, hl]; omega) ?_ (one_ints ds) hn hbase ?_
    · cases ds with
      | nil => intro j u hu; simp at hu
      | cons y ws =>
        obtain ⟨b, o', e, _⟩ := hr 0 y rfl
        injection e with e
        subst e
        exact rdI_news hr
    · intro v' w' hown' hgrow' _ _
      obtain ⟨A', c', rfl⟩ := own_form hown'
      exact hK _ _ (h A' c' w' (by rw [List.map_append]; exact hown') hgrow')
/-- an ending: a row of the call's own -/
def RetO (xs : List Int) (w : World) (e : Ending) (w' : World) : Prop := ∃ A n c, e = .returned (.slice A n c) ∧ w'.ownsRow w.heap.size 3 1 (.slice A n c) n (xs.map vInt) ∧ xs.length = n ∧ Below w.heap.size w w'
theorem run_eqlnil {P : Program} (w : World) (t e : TypeId) (a : Option Addr) (l c : Nat) (h : P.underlying t = some (.slice e)) : (binOp .eql t (.slice a l c) (.slice none 0 0)).run P w = .ok (.bool a.isNone) w := by
  unfold binOp
  simp [run_equal_slice_nil w t e a l c h]
set_option maxRecDepth 100000 in
theorem clone48 (A : Option Addr) (n c : Nat) (ds : List Int) (w : World) (hr : RdI w w.heap.size A ds) (hl : ds.length = n) (hn : n ≤ 1000000000) :
    Calls Try.prog 45 #[.slice A n c] w (RetO ds w) := by
  have HR := Lib.hid hr; clear hr
  cases A with
  | none =>
    have h0 : ds = [] := by
      cases ds with
      | nil => rfl
      | cons y ws => obtain ⟨b, o', e, _⟩ := HR.out 0 y rfl; cases e
    subst h0
    have E := fun W => run_eqlnil (P := Try.prog) W 35 3 none n c Try.underlying35
    simp only [Option.isNone_none] at E
    obtain rfl : 0 = n := hl
    go_enter Try.func45, Try.ntmps45
    go_wp2
    go_ret
    exact ⟨none, 0, 0, rfl, World.ownsRow_nil _ _ _ _, rfl, Below.refl _ _⟩
  | some ad =>
    have E := fun W => run_eqlnil (P := Try.prog) W 35 3 (some ad) n c Try.underlying35
    simp only [Option.isNone_some] at E
    go_enter Try.func45, Try.ntmps45
    go_wp2_with (at_builtin; refine wpList_appI rfl (.tmp 5) (.tmp 6) rfl w.heap.size (.slice (some ⟨w.heap.size, 0, none⟩) 0 0) 0 [] rfl (own_lit0 (Nat.le_refl _)) (some ad) n c ds rfl (HR.out.up (by go_grown)) hl (by omega) (by simp) ?_)
    intro A' c' w' hown hgrow
    have hb : Below w.heap.size w w' := ((Below.refl _ w).alloc (Nat.le_refl _) (.cells #[] 3)).grown hgrow (by simp) (fun k hk => by simp [Value.ownBlock] at hk; omega)
    have HO := Lib.hid hown; clear hown
    go_wp2
    go_ret
    exact ⟨A', n, c', by simp, by simpa using HO.out, hl, hb⟩
end Go.Proofs.Ytpljaoagiaijiaa
/-
  Contracts: stitches.crossings and Crossings (chapter 3).
-/
namespace Go.Proofs.Ytpljaoagiaijiaa
open Go.RowKit
/-- the crossings of the first k places of a letter -/
def crT (v : List Int) : Nat → List Int
  | 0 => []
  | k + 1 => if v.getD k 0 = 0 then crT v k else crT v k ++ [v.getD k 0 * ((k : Int) + 1)]
/-- the crossings of the first i letters of a word -/
def crW (bs : List UInt8) : Nat → List Int
  | 0 => []
  | i + 1 => match bs[i]? with
    | some c => crW bs i ++ crT (twV c) 3
    | none => crW bs i
theorem crW_succ {bs : List UInt8} {i : Nat} {c : UInt8} (h : bs[i]? = some c) : crW bs (i + 1) = crW bs i ++ crT (twV c) 3 := by
  show (match bs[i]? with | some c => crW bs i ++ crT (twV c) 3 | none => crW bs i) = _
  rw [h]
theorem twV_le (c : UInt8) : ∀ v ∈ twV c, -1 ≤ v ∧ v ≤ 1 := by
  unfold twV
  repeat' split
  all_goals (intro v hv; simp at hv; omega)
theorem ixK (L : List Int) (k : Nat) (v : Int) (h : L[k]? = some v) (hl : L.length = 3) (W : World) : (Instr.index 109 (.agg (L.map vInt).toArray) (.int .i64 (k : Int))).run Try.prog W = .ok (.int .i64 v) W := by
  have z := Try.sizeOf3
  have a := Try.isAgg3
  match L, hl with
  | [v0, v1, v2], _ =>
    match k, h with
    | 0, h =>
      simp at h; subst h
      unfold Instr.index
      simp [asIntOf, Sem.run_bind, run_underlying Try.underlying109, part, z, a, Result.andThen, go_sem]
    | 1, h =>
      simp at h; subst h
      unfold Instr.index
      simp [asIntOf, Sem.run_bind, run_underlying Try.underlying109, part, z, a, Result.andThen, go_sem]
    | 2, h =>
      simp at h; subst h
      unfold Instr.index
      simp [asIntOf, Sem.run_bind, run_underlying Try.underlying109, part, z, a, Result.andThen, go_sem]
    | k + 3, h => simp at h
set_option maxRecDepth 100000 in
set_option maxHeartbeats 2000000 in
theorem crossings62 (s : ByteArray) (w : World) (hs : s.size ≤ 16) (hok : wOk s = true) :
    Calls Try.prog 62 #[.string s] w (RetO (crW s.data.toList s.size) w) := by
  have HOK : Hid (∀ (i : Nat) (hi : i < s.size), isLet s[i] = true ∧ s.data.toList[i]? = some s[i]) := fun i hi => by
    have h1 : s.data.toList[i]? = some s[i] := by
      rw [Array.getElem?_toList]
      exact Array.getElem?_eq_getElem hi
    exact ⟨(List.all_eq_true.1 hok) _ (mem_of_get h1), h1⟩
  clear hok
  go_enter Try.func62, Try.ntmps62
  go_wp2
  go_loopw [3, 9] (fun v i wr => ∃ (j l : Nat) (A' : Option Addr) (c' : Nat), j ≤ s.size ∧ l ≤ 3 * j ∧ i = .int .i64 (j : Int) ∧ v = .slice A' l c' ∧ Hid ((crW s.data.toList j).length = l) ∧ Hid (wr.ownsRow w.heap.size 3 1 v l ((crW s.data.toList j).map vInt)) ∧ Below w.heap.size w wr) (fun _ i _ => s.size - (intOf i).toNat)
  case atStart => exact ⟨0, 0, none, 0, Nat.zero_le _, Nat.le_refl _, rfl, rfl, Lib.hid rfl, Lib.hid (World.ownsRow_nil _ _ _ _), Below.refl _ _⟩
  case round =>
    obtain ⟨j, l, A', c', hj, hlj, rfl, rfl, HLL, HO, hb⟩ := hrel
    obtain ⟨wo, rfl⟩ : ∃ wo : World, wo = wr := ⟨_, rfl⟩
    have hz := hb.size
    by_cases hlt : j < s.size
    · obtain ⟨hlet, hget⟩ := HOK.out j hlt
      have T := Lib.hid (twists72 s[j] hlet wo)
      have HG := Lib.hid hget
      clear hlet hget
      go_wp2_with fail
      refine T.out.mono ?_
      rintro e w2 ⟨rfl, hb2⟩
      have HO2 := Lib.hid (own_below HO.out hb2)
      have B2 := hb.trans (hb2.mono hz)
      clear hb2 T HO hb
      obtain ⟨V, hV⟩ : ∃ V, V = twV s[j] := ⟨_, rfl⟩
      have HV : Hid (V.length = 3 ∧ ∀ v ∈ V, -1 ≤ v ∧ v ≤ 1) := by rw [hV]; exact ⟨twV_len _, twV_le _⟩
      have HS : Hid (crW s.data.toList (j + 1) = crW s.data.toList j ++ crT V 3) := by rw [hV]; exact crW_succ HG.out
      rw [← hV]
      clear hV
      go_wp2
      go_loopw [3, 16] (fun v i wr => ∃ (k l2 : Nat) (A2 : Option Addr) (c2 : Nat), k ≤ 3 ∧ l2 ≤ l + k ∧ i = .int .i64 (k : Int) ∧ v = .slice A2 l2 c2 ∧ Hid ((crW s.data.toList j ++ crT V k).length = l2) ∧ Hid (wr.ownsRow w.heap.size 3 1 v l2 ((crW s.data.toList j ++ crT V k).map vInt)) ∧ Below w.heap.size w wr) (fun _ i _ => 3 - (intOf i).toNat)
      case atStart => exact ⟨0, l, A', c', Nat.zero_le _, by omega, rfl, rfl, Lib.hid (by simp [crT]; exact HLL.out), Lib.hid (by simpa [crT] using HO2.out), B2⟩
      case round =>
        clear HO2 B2
        obtain ⟨k, l2, A2, c2, hk, hlk, rfl, rfl, HL2, HO, hb⟩ := hrel
        obtain ⟨wo, rfl⟩ : ∃ wo : World, wo = wr := ⟨_, rfl⟩
        have hz := hb.size
        by_cases hlt2 : k < 3
        · obtain ⟨v, hv⟩ := get_of_lt (l := V) (k := k) (by rw [HV.out.1]; exact hlt2)
          have hvb := HV.out.2 v (mem_of_get hv)
          have IX := fun W => ixK V k v hv HV.out.1 W
          have hD : V.getD k 0 = v := by rw [List.getD_eq_getElem?_getD, hv]; rfl
          have k3 : (k : Int) < 3 := by omega
          have i1 : IntKind.i64.wrap ((k : Int) + 1) = (k : Int) + 1 := IntWalk.i64_in _ (by omega)
          by_cases h0 : v = 0
          · have d0 : (v != 0) = false := by simpa using h0
            have HS2 : Hid (crT V (k + 1) = crT V k) := by
              show (if V.getD k 0 = 0 then crT V k else crT V k ++ [V.getD k 0 * ((k : Int) + 1)]) = _
              rw [hD, if_pos h0]
            clear h0 hv hD
            go_wp2
            go_roundw
            case rel => exact ⟨k + 1, l2, A2, c2, by omega, by omega, by go_num, rfl, Lib.hid (by rw [HS2.out]; exact HL2.out), Lib.hid (by rw [HS2.out]; exact HO.out), hb⟩
            case measure => first | (simp [intOf]; done) | (simp [intOf]; omega)
          · have d0 : (v != 0) = true := by simpa using h0
            obtain ⟨p, hp⟩ : ∃ p, p = v * ((k : Int) + 1) := ⟨_, rfl⟩
            have hpb : -3 ≤ p ∧ p ≤ 3 := by
              have hk' : k = 0 ∨ k = 1 ∨ k = 2 := by omega
              rcases hk' with rfl | rfl | rfl <;> simp at hp <;> omega
            have i2 : IntKind.i64.wrap (v * ((k : Int) + 1)) = p := by rw [← hp]; exact IntWalk.i64_in _ (by omega)
            have HS2 : Hid (crT V (k + 1) = crT V k ++ [p]) := by
              show (if V.getD k 0 = 0 then crT V k else crT V k ++ [V.getD k 0 * ((k : Int) + 1)]) = _
              rw [hD, if_neg h0, hp]
            clear h0 hv hD hp
            go_wp2_with (at_builtin; refine wpList_app rfl (.tmp 22) (.tmp 27) _ rfl w.heap.size 3 (.int .i64 0) 1 8 Try.underlying35 infoInt rfl (by omega) (by omega) _ _ _ rfl (HO.out.alloc _) wo.heap.size [vInt p] rfl rfl (news_new _ _ _) (one_int _ _) (by omega) (by simp; omega) ?_; intro ga cap1 w7 hg1 hown1 hgrow1 hor1)
            go_roundw
            case rel => exact ⟨k + 1, l2 + 1, some ⟨ga, 0, none⟩, cap1, by omega, by omega, by go_num, rfl, Lib.hid (by rw [HS2.out, ← List.append_assoc, List.length_append, HL2.out]; rfl), Lib.hid (by rw [HS2.out, ← List.append_assoc]; simpa using hown1), (hb.alloc hz _).grown hgrow1 (by simp; omega) (fun kk hk => (HO.out.lt kk hk).1)⟩
            case measure => first | (simp [intOf]; done) | (simp [intOf]; omega)
        · obtain rfl : k = 3 := by omega
          go_wp2
          go_roundw
          case rel => exact ⟨j + 1, l2, A2, c2, by omega, by omega, by go_num, rfl, Lib.hid (by rw [HS.out]; exact HL2.out), Lib.hid (by rw [HS.out]; exact HO.out), hb⟩
          case measure => first | (simp [intOf]; done) | (simp [intOf]; omega)
    · obtain rfl : s.size = j := by omega
      go_wp2
      go_ret
      exact ⟨A', l, c', rfl, HO.out, HLL.out, hb⟩
set_option maxRecDepth 100000 in
theorem crossings39 (s : ByteArray) (w : World) (hs : s.size ≤ 16) (hok : wOk s = true) :
    Calls Try.prog 39 #[.string s] w (RetIE (crW s.data.toList s.size) 0 w) := by
  have C1 := Lib.hid (stCheck s w (by omega))
  rw [wchk_ok hs hok] at C1
  have C2 := Lib.hid (crossings62 s w hs hok)
  clear hok
  go_enter Try.func39, Try.ntmps39
  go_wp2_with fail
  refine C1.out.mono ?_
  rintro e w' ⟨rfl, rfl⟩
  go_wp2_with fail
  refine C2.out.mono ?_
  rintro e w2 ⟨A2, n2, c2, rfl, r2, l2, hb2⟩
  have HR := Lib.hid r2; clear r2
  have hcc := own_caps HR.out
  go_wp2
  go_ret2
  exact ⟨A2, n2, c2, rfl, own_rd1 HR.out, l2, hcc.1, hcc.2, hb2⟩
end Go.Proofs.Ytpljaoagiaijiaa
/-
  Contract of chapter 17: the closure of Make that puts in a pin.
-/
namespace Go.Proofs.Ytpljaoagiaijiaa
open Go.RowKit
def q4C (x : Q4) : List Value := [.int .i64 x.a, .int .i64 x.b, .int .i64 x.c, .int .i64 x.d]
def qsC (ws : List Q4) : List Value := ws.flatMap q4C
/-- all but one block, and the block of a row, is as it was -/
structure KeepP (gc : Nat) (blk : Option Nat) (V W : World) : Prop where
  os : W.os = V.os
  tape : W.tape = V.tape
  output : W.output = V.output
  size : V.heap.size ≤ W.heap.size
  same : ∀ r, r < V.heap.size → r ≠ gc → some r ≠ blk → W.heap[r]? = V.heap[r]?
theorem KeepP.mk1 {gc : Nat} {blk : Option Nat} {V V2 W : World} (h : Below V.heap.size V V2) (k : V2.grownBy W blk) (i : Nat) (u : Value) : KeepP gc blk V (W.setCell ⟨gc, i, none⟩ u) := by
  have hs := (Below.refl 0 W).setCell (p := ⟨gc, i, none⟩) (Nat.zero_le _) u
  exact ⟨hs.os.trans (k.os.trans h.os), hs.tape.trans (k.tape.trans h.tape), hs.output.trans (k.output.trans h.output), Nat.le_trans (Nat.le_trans h.size k.size) hs.size,
    fun r hr hne hb => (Below.heap_setCell W _ u r hne).trans ((k.block r (Nat.lt_of_lt_of_le hr h.size) hb).trans (h.block r hr))⟩
theorem KeepP.drew {gc : Nat} {blk : Option Nat} {V W : World} (h : KeepP gc blk V W) : KeepP gc blk V W.drew := ⟨h.os, h.tape, h.output, h.size, h.same⟩
theorem qsC_app (ws : List Q4) (x : Q4) : qsC (ws ++ [x]) = qsC ws ++ q4C x := by simp [qsC]
theorem infoPn : (Try.prog.info? 72).map (fun i => (i.zero, i.size, i.bytes)) = some (some (.agg #[.int .i64 0, .int .i64 0, .int .i64 0, .int .i64 0]), 4, 32) := by kernel_rfl
set_option maxRecDepth 100000 in
set_option maxHeartbeats 2000000 in
theorem pin38 (gc gi gm gl mid np cp base : Nat) (i la lb : Int) (T X : Value) (P : Option Addr) (qs : List Q4) (cs : List Value) (W : World) (hc : Has W gc 30 [T, X, .slice P np cp]) (hi : Has W gi 3 [.int .i64 i]) (hm : Has W gm 3 [.int .i64 (mid : Int)]) (hg : Has W gl 74 cs)
    (ha : cs[mid]? = some (.int .i64 la)) (hb : cs[mid + 1]? = some (.int .i64 lb)) (hmid : mid + 1 < 48) (ho : W.ownsRow base 72 4 (.slice P np cp) np (qsC qs)) (hnp : np ≤ 1000000) (hbase : base ≤ W.heap.size) (n1 : gi ≠ gc) (n2 : gm ≠ gc) (n3 : gl ≠ gc) :
    Calls Try.prog 38 #[.pointer (some ⟨gc, 0, none⟩), .pointer (some ⟨gi, 0, none⟩), .pointer (some ⟨gm, 0, none⟩), .pointer (some ⟨gl, 0, none⟩)] W fun e w' => (∃ v, e = .returned v) ∧ ∃ P' c', Has w' gc 30 [T, X, .slice P' (np + 1) c'] ∧ w'.ownsRow base 72 4 (.slice P' (np + 1) c') (np + 1) (qsC (qs ++ [⟨i, (mid : Int), la, lb⟩])) ∧ KeepP gc (Value.slice P np cp).ownBlock W w' := by
  have HO : Hid (∀ w', Below W.heap.size W w' → w'.ownsRow base 72 4 (.slice P np cp) np (qsC qs)) := fun w' h => own_below ho h
  have y0 := hi.drew.cell 0
  have y1 := hm.drew.cell 0
  have y2 := (hg.drew.cell mid).trans ha
  have y3 := (hg.drew.cell (mid + 1)).trans hb
  have y4 := hc.drew.cell 2
  have i1 : IntKind.i64.wrap ((mid : Int) + 1) = (mid : Int) + 1 := IntWalk.i64_in _ (by omega)
  have i2 : ((mid : Int) + 1).toNat = mid + 1 := by omega
  have i3 : (0 : Int) ≤ (mid : Int) + 1 := by omega
  have i4 : (mid : Int) + 1 < 48 := by omega
  have i5 : (mid : Int) < 48 := by omega
  have i6 : mid < 48 := by omega
  go_enter Try.func38, Try.ntmps38
  go_wp2
  refine wp_region_noPanic ?_
  refine wp_region_B (fun b w' => w'.cell? ⟨gi, 0, none⟩ = some (.int .i64 i) ∧ w'.cell? ⟨gm, 0, none⟩ = some (.int .i64 (mid : Int)) ∧ w'.cell? ⟨gl, mid, none⟩ = some (.int .i64 la) ∧ w'.cell? ⟨gl, mid + 1, none⟩ = some (.int .i64 lb) ∧ (b = false → w'.cell? ⟨gc, 2, none⟩ = some (.slice P np cp))) 15 (by kernel_rfl) ?_
  have hSS : (fun b w' => w'.cell? ⟨gi, 0, none⟩ = some (.int .i64 i) ∧ w'.cell? ⟨gm, 0, none⟩ = some (.int .i64 (mid : Int)) ∧ w'.cell? ⟨gl, mid, none⟩ = some (.int .i64 la) ∧ w'.cell? ⟨gl, mid + 1, none⟩ = some (.int .i64 lb) ∧ (b = false → w'.cell? ⟨gc, 2, none⟩ = some (.slice P np cp))) false (W.drew) := ⟨y0, y1, y2, y3, fun _ => y4⟩
  refine wpAnyB_take (i := 0) (oi := _) (v := ?vv1) (fun w' => w'.cell? ⟨gi, 0, none⟩ = some (.int .i64 i) ∧ w'.cell? ⟨gm, 0, none⟩ = some (.int .i64 (mid : Int)) ∧ w'.cell? ⟨gl, mid, none⟩ = some (.int .i64 la) ∧ w'.cell? ⟨gl, mid + 1, none⟩ = some (.int .i64 lb)) rfl (by kernel_rfl) (by kernel_rfl) (by kernel_rfl) (by kernel_rfl) (by rfl) (fun _ h => ⟨h.1, h.2.1, h.2.2.1, h.2.2.2.1⟩) (.inl fun _ h => ⟨h.1, h.2.1, h.2.2.1, h.2.2.2.1⟩) (fun _ _ _ h => h) (.inl ⟨by rfl, ?hy1⟩) hSS ?_
  case hy1 =>
    intro w' hSw
    try dsimp only at hSw
    go_simp
    all_goals with_reducible rfl
  try simp only [Act.put, List.setIfInBounds_toArray, List.set_cons_zero, List.set_cons_succ]
  refine wpAnyB_take (i := 1) (oi := _) (v := ?vv2) (fun w' => w'.cell? ⟨gi, 0, none⟩ = some (.int .i64 i) ∧ w'.cell? ⟨gm, 0, none⟩ = some (.int .i64 (mid : Int)) ∧ w'.cell? ⟨gl, mid, none⟩ = some (.int .i64 la) ∧ w'.cell? ⟨gl, mid + 1, none⟩ = some (.int .i64 lb) ∧ w'.cell? ⟨gc, 2, none⟩ = some (.slice P np cp)) rfl (by kernel_rfl) (by kernel_rfl) (by kernel_rfl) (by kernel_rfl) (by rfl) (fun _ h => ⟨h.1, h.2.1, h.2.2.1, h.2.2.2.1, h.2.2.2.2 rfl⟩) (.inr (by kernel_rfl)) (fun _ _ _ h => h) (.inl ⟨by rfl, ?hy2⟩) hSS ?_
  case hy2 =>
    intro w' hSw
    try dsimp only at hSw
    go_simp
    all_goals with_reducible rfl
  try simp only [Act.put, List.setIfInBounds_toArray, List.set_cons_zero, List.set_cons_succ]
  refine wpAnyB_take (i := 2) (oi := _) (v := ?vv3) (fun w' => w'.cell? ⟨gi, 0, none⟩ = some (.int .i64 i) ∧ w'.cell? ⟨gm, 0, none⟩ = some (.int .i64 (mid : Int)) ∧ w'.cell? ⟨gl, mid, none⟩ = some (.int .i64 la) ∧ w'.cell? ⟨gl, mid + 1, none⟩ = some (.int .i64 lb)) rfl (by kernel_rfl) (by kernel_rfl) (by kernel_rfl) (by kernel_rfl) (by rfl) (fun _ h => ⟨h.1, h.2.1, h.2.2.1, h.2.2.2.1⟩) (.inl fun _ h => ⟨h.1, h.2.1, h.2.2.1, h.2.2.2.1⟩) (fun _ _ _ h => h) (.inl ⟨by rfl, ?hy3⟩) hSS ?_
  case hy3 =>
    intro w' hSw
    try dsimp only at hSw
    go_simp
    all_goals with_reducible rfl
  try simp only [Act.put, List.setIfInBounds_toArray, List.set_cons_zero, List.set_cons_succ]
  refine wpAnyB_take (i := 3) (oi := _) (v := ?vv4) (fun w' => w'.cell? ⟨gi, 0, none⟩ = some (.int .i64 i) ∧ w'.cell? ⟨gm, 0, none⟩ = some (.int .i64 (mid : Int)) ∧ w'.cell? ⟨gl, mid, none⟩ = some (.int .i64 la) ∧ w'.cell? ⟨gl, mid + 1, none⟩ = some (.int .i64 lb)) rfl (by kernel_rfl) (by kernel_rfl) (by kernel_rfl) (by kernel_rfl) (by rfl) (fun _ h => ⟨h.1, h.2.1, h.2.2.1, h.2.2.2.1⟩) (.inl fun _ h => ⟨h.1, h.2.1, h.2.2.1, h.2.2.2.1⟩) (fun _ _ _ h => h) (.inl ⟨by rfl, ?hy4⟩) hSS ?_
  case hy4 =>
    intro w' hSw
    try dsimp only at hSw
    go_simp
    all_goals with_reducible rfl
  try simp only [Act.put, List.setIfInBounds_toArray, List.set_cons_zero, List.set_cons_succ]
  refine wpAnyB_take (i := 4) (oi := _) (v := ?vv5) (fun w' => w'.cell? ⟨gi, 0, none⟩ = some (.int .i64 i) ∧ w'.cell? ⟨gm, 0, none⟩ = some (.int .i64 (mid : Int)) ∧ w'.cell? ⟨gl, mid, none⟩ = some (.int .i64 la) ∧ w'.cell? ⟨gl, mid + 1, none⟩ = some (.int .i64 lb)) rfl (by kernel_rfl) (by kernel_rfl) (by kernel_rfl) (by kernel_rfl) (by rfl) (fun _ h => ⟨h.1, h.2.1, h.2.2.1, h.2.2.2.1⟩) (.inl fun _ h => ⟨h.1, h.2.1, h.2.2.1, h.2.2.2.1⟩) (fun _ _ _ h => h) (.inl ⟨by rfl, ?hy5⟩) hSS ?_
  case hy5 =>
    intro w' hSw
    try dsimp only at hSw
    go_simp
    all_goals with_reducible rfl
  try simp only [Act.put, List.setIfInBounds_toArray, List.set_cons_zero, List.set_cons_succ]
  refine wpAnyB_take (i := 5) (oi := _) (v := ?vv6) (fun w' => w'.cell? ⟨gi, 0, none⟩ = some (.int .i64 i) ∧ w'.cell? ⟨gm, 0, none⟩ = some (.int .i64 (mid : Int)) ∧ w'.cell? ⟨gl, mid, none⟩ = some (.int .i64 la) ∧ w'.cell? ⟨gl, mid + 1, none⟩ = some (.int .i64 lb)) rfl (by kernel_rfl) (by kernel_rfl) (by kernel_rfl) (by kernel_rfl) (by rfl) (fun _ h => ⟨h.1, h.2.1, h.2.2.1, h.2.2.2.1⟩) (.inl fun _ h => ⟨h.1, h.2.1, h.2.2.1, h.2.2.2.1⟩) (fun _ _ _ h => h) (.inl ⟨by rfl, ?hy6⟩) hSS ?_
  case hy6 =>
    intro w' hSw
    try dsimp only at hSw
    go_simp
    all_goals with_reducible rfl
  try simp only [Act.put, List.setIfInBounds_toArray, List.set_cons_zero, List.set_cons_succ]
  refine wpAnyB_take (i := 6) (oi := _) (v := ?vv7) (fun w' => w'.cell? ⟨gi, 0, none⟩ = some (.int .i64 i) ∧ w'.cell? ⟨gm, 0, none⟩ = some (.int .i64 (mid : Int)) ∧ w'.cell? ⟨gl, mid, none⟩ = some (.int .i64 la) ∧ w'.cell? ⟨gl, mid + 1, none⟩ = some (.int .i64 lb)) rfl (by kernel_rfl) (by kernel_rfl) (by kernel_rfl) (by kernel_rfl) (by rfl) (fun _ h => ⟨h.1, h.2.1, h.2.2.1, h.2.2.2.1⟩) (.inl fun _ h => ⟨h.1, h.2.1, h.2.2.1, h.2.2.2.1⟩) (fun _ _ _ h => h) (.inl ⟨by rfl, ?hy7⟩) hSS ?_
  case hy7 =>
    intro w' hSw
    try dsimp only at hSw
    go_simp
    all_goals with_reducible rfl
  try simp only [Act.put, List.setIfInBounds_toArray, List.set_cons_zero, List.set_cons_succ]
  refine wpAnyB_take (i := 7) (oi := _) (v := ?vv8) (fun w' => w'.cell? ⟨gi, 0, none⟩ = some (.int .i64 i) ∧ w'.cell? ⟨gm, 0, none⟩ = some (.int .i64 (mid : Int)) ∧ w'.cell? ⟨gl, mid, none⟩ = some (.int .i64 la) ∧ w'.cell? ⟨gl, mid + 1, none⟩ = some (.int .i64 lb)) rfl (by kernel_rfl) (by kernel_rfl) (by kernel_rfl) (by kernel_rfl) (by rfl) (fun _ h => ⟨h.1, h.2.1, h.2.2.1, h.2.2.2.1⟩) (.inl fun _ h => ⟨h.1, h.2.1, h.2.2.1, h.2.2.2.1⟩) (fun _ _ _ h => h) (.inl ⟨by rfl, ?hy8⟩) hSS ?_
  case hy8 =>
    intro w' hSw
    try dsimp only at hSw
    go_simp
    all_goals with_reducible rfl
  try simp only [Act.put, List.setIfInBounds_toArray, List.set_cons_zero, List.set_cons_succ]
  refine wpAnyB_take (i := 8) (oi := _) (v := ?vv9) (fun w' => w'.cell? ⟨gi, 0, none⟩ = some (.int .i64 i) ∧ w'.cell? ⟨gm, 0, none⟩ = some (.int .i64 (mid : Int)) ∧ w'.cell? ⟨gl, mid, none⟩ = some (.int .i64 la) ∧ w'.cell? ⟨gl, mid + 1, none⟩ = some (.int .i64 lb)) rfl (by kernel_rfl) (by kernel_rfl) (by kernel_rfl) (by kernel_rfl) (by rfl) (fun _ h => ⟨h.1, h.2.1, h.2.2.1, h.2.2.2.1⟩) (.inl fun _ h => ⟨h.1, h.2.1, h.2.2.1, h.2.2.2.1⟩) (fun _ _ _ h => h) (.inl ⟨by rfl, ?hy9⟩) hSS ?_
  case hy9 =>
    intro w' hSw
    try dsimp only at hSw
    go_simp
    all_goals with_reducible rfl
  try simp only [Act.put, List.setIfInBounds_toArray, List.set_cons_zero, List.set_cons_succ]
  refine wpAnyB_take (i := 9) (oi := _) (v := ?vv10) (fun w' => w'.cell? ⟨gi, 0, none⟩ = some (.int .i64 i) ∧ w'.cell? ⟨gm, 0, none⟩ = some (.int .i64 (mid : Int)) ∧ w'.cell? ⟨gl, mid, none⟩ = some (.int .i64 la) ∧ w'.cell? ⟨gl, mid + 1, none⟩ = some (.int .i64 lb)) rfl (by kernel_rfl) (by kernel_rfl) (by kernel_rfl) (by kernel_rfl) (by rfl) (fun _ h => ⟨h.1, h.2.1, h.2.2.1, h.2.2.2.1⟩) (.inl fun _ h => ⟨h.1, h.2.1, h.2.2.1, h.2.2.2.1⟩) (fun _ _ _ h => h) (.inl ⟨by rfl, ?hy10⟩) hSS ?_
  case hy10 =>
    intro w' hSw
    try dsimp only at hSw
    go_simp
    all_goals with_reducible rfl
  try simp only [Act.put, List.setIfInBounds_toArray, List.set_cons_zero, List.set_cons_succ]
  refine wpAnyB_take (i := 10) (oi := _) (v := ?vv11) (fun w' => w'.cell? ⟨gi, 0, none⟩ = some (.int .i64 i) ∧ w'.cell? ⟨gm, 0, none⟩ = some (.int .i64 (mid : Int)) ∧ w'.cell? ⟨gl, mid, none⟩ = some (.int .i64 la) ∧ w'.cell? ⟨gl, mid + 1, none⟩ = some (.int .i64 lb)) rfl (by kernel_rfl) (by kernel_rfl) (by kernel_rfl) (by kernel_rfl) (by rfl) (fun _ h => ⟨h.1, h.2.1, h.2.2.1, h.2.2.2.1⟩) (.inl fun _ h => ⟨h.1, h.2.1, h.2.2.1, h.2.2.2.1⟩) (fun _ _ _ h => h) (.inl ⟨by rfl, ?hy11⟩) hSS ?_
  case hy11 =>
    intro w' hSw
    try dsimp only at hSw
    go_simp
    all_goals with_reducible rfl
  try simp only [Act.put, List.setIfInBounds_toArray, List.set_cons_zero, List.set_cons_succ]
  refine wpAnyB_take (i := 11) (oi := _) (v := ?vv12) (fun w' => w'.cell? ⟨gi, 0, none⟩ = some (.int .i64 i) ∧ w'.cell? ⟨gm, 0, none⟩ = some (.int .i64 (mid : Int)) ∧ w'.cell? ⟨gl, mid, none⟩ = some (.int .i64 la) ∧ w'.cell? ⟨gl, mid + 1, none⟩ = some (.int .i64 lb)) rfl (by kernel_rfl) (by kernel_rfl) (by kernel_rfl) (by kernel_rfl) (by rfl) (fun _ h => ⟨h.1, h.2.1, h.2.2.1, h.2.2.2.1⟩) (.inl fun _ h => ⟨h.1, h.2.1, h.2.2.1, h.2.2.2.1⟩) (fun _ _ _ h => h) (.inl ⟨by rfl, ?hy12⟩) hSS ?_
  case hy12 =>
    intro w' hSw
    try dsimp only at hSw
    go_simp
    all_goals with_reducible rfl
  try simp only [Act.put, List.setIfInBounds_toArray, List.set_cons_zero, List.set_cons_succ]
  refine wpAnyB_one (i := 12) false rfl (by kernel_rfl) (by kernel_rfl) ?_
  intro KK hKK
  go_simp
  have hc2 := (hc.alloc (.cells #[.int .i64 i, .int .i64 (mid : Int), .int .i64 la, .int .i64 lb] 72)).drew
  have hi2 := (hi.alloc (.cells #[.int .i64 i, .int .i64 (mid : Int), .int .i64 la, .int .i64 lb] 72)).drew
  have hm2 := (hm.alloc (.cells #[.int .i64 i, .int .i64 (mid : Int), .int .i64 la, .int .i64 lb] 72)).drew
  have hg2 := (hg.alloc (.cells #[.int .i64 i, .int .i64 (mid : Int), .int .i64 la, .int .i64 lb] 72)).drew
  have ho2 := HO.out (W.alloc (.cells #[.int .i64 i, .int .i64 (mid : Int), .int .i64 la, .int .i64 lb] 72)).drew ((Below.refl _ W).alloc (Nat.le_refl _) (.cells #[.int .i64 i, .int .i64 (mid : Int), .int .i64 la, .int .i64 lb] 72)).drew
  have hn2 : ∀ p u, ([.int .i64 i, .int .i64 (mid : Int), .int .i64 la, .int .i64 lb] : List Value)[p]? = some u → (W.alloc (.cells #[.int .i64 i, .int .i64 (mid : Int), .int .i64 la, .int .i64 lb] 72)).drew.cell? ⟨W.heap.size, p, none⟩ = some u := fun p u hu => ((Has.new (w := W) (t := 72) (cs := [.int .i64 i, .int .i64 (mid : Int), .int .i64 la, .int .i64 lb]) rfl).drew.cell p).trans hu
  have z2 : W.heap.size ≤ (W.alloc (.cells #[.int .i64 i, .int .i64 (mid : Int), .int .i64 la, .int .i64 lb] 72)).drew.heap.size := by show _ ≤ (W.alloc (.cells #[.int .i64 i, .int .i64 (mid : Int), .int .i64 la, .int .i64 lb] 72)).heap.size; simp
  have B2 := ((Below.refl _ W).alloc (Nat.le_refl _) (.cells #[.int .i64 i, .int .i64 (mid : Int), .int .i64 la, .int .i64 lb] 72)).drew
  generalize (W.alloc (.cells #[.int .i64 i, .int .i64 (mid : Int), .int .i64 la, .int .i64 lb] 72)).drew = W2 at *
  refine hKK.out _ _ ⟨hi2.cell 0, hm2.cell 0, (hg2.cell mid).trans ha, (hg2.cell (mid + 1)).trans hb, fun _ => hc2.cell 2⟩ ?_
  clear hKK KK
  try simp only [Act.put, List.setIfInBounds_toArray, List.set_cons_zero, List.set_cons_succ]
  refine wpAnyB_one (i := 13) false rfl (by kernel_rfl) (by kernel_rfl) ?_
  intro KK hKK
  refine step_appN rfl (.tmp 5) (.tmp 16) 28 rfl base 72 (.agg #[.int .i64 0, .int .i64 0, .int .i64 0, .int .i64 0]) 4 32 Try.underlying28 infoPn rfl (by omega) (by omega) (.slice P np cp) np (qsC qs) rfl ho2 ⟨W.heap.size, 0, none⟩ 1 1 [.int .i64 i, .int .i64 (mid : Int), .int .i64 la, .int .i64 lb] rfl rfl (fun j u hu => by rw [Addr.add_lit, Nat.zero_add]; exact hn2 j u hu) (by simp [Value.oneCell']) (by omega) (by omega) ?_
  intro v' w4 hown4 hgrow4 hnil4 hor4
  obtain ⟨A4, c4, rfl⟩ := own_form hown4
  have hc4 := hc2.same (hgrow4.block _ hc2.lt (fun e => hc2.ne_own ho2 (by decide) e.symm))
  have hi4 := hi2.same (hgrow4.block _ hi2.lt (fun e => hi2.ne_own ho2 (by decide) e.symm))
  have hm4 := hm2.same (hgrow4.block _ hm2.lt (fun e => hm2.ne_own ho2 (by decide) e.symm))
  have hg4 := hg2.same (hgrow4.block _ hg2.lt (fun e => hg2.ne_own ho2 (by decide) e.symm))
  refine hKK.out _ _ ⟨hi4.cell 0, hm4.cell 0, (hg4.cell mid).trans ha, (hg4.cell (mid + 1)).trans hb, fun _ => hc4.cell 2⟩ ?_
  clear hKK KK
  try simp only [Act.put, List.setIfInBounds_toArray, List.set_cons_zero, List.set_cons_succ]
  refine wpAnyB_take (i := 14) (oi := _) (v := ?vv13) (fun w' => w'.cell? ⟨gi, 0, none⟩ = some (.int .i64 i) ∧ w'.cell? ⟨gm, 0, none⟩ = some (.int .i64 (mid : Int)) ∧ w'.cell? ⟨gl, mid, none⟩ = some (.int .i64 la) ∧ w'.cell? ⟨gl, mid + 1, none⟩ = some (.int .i64 lb)) rfl (by kernel_rfl) (by kernel_rfl) (by kernel_rfl) (by kernel_rfl) (by rfl) (fun _ h => ⟨h.1, h.2.1, h.2.2.1, h.2.2.2.1⟩) (.inl fun _ h => ⟨h.1, h.2.1, h.2.2.1, h.2.2.2.1⟩) (fun _ _ _ h => h) (.inl ⟨by rfl, ?hy13⟩) ⟨hi4.cell 0, hm4.cell 0, (hg4.cell mid).trans ha, (hg4.cell (mid + 1)).trans hb, fun _ => hc4.cell 2⟩ ?_
  case hy13 =>
    intro w' hSw
    try dsimp only at hSw
    go_simp
    all_goals with_reducible rfl
  try simp only [Act.put, List.setIfInBounds_toArray, List.set_cons_zero, List.set_cons_succ]
  refine wpAnyB_one (i := 15) true rfl (by kernel_rfl) (by kernel_rfl) ?_
  intro KK hKK
  have f4 := hc4.free 2
  have q4 := hc4.lt
  have s4 : w4.cell? ⟨gc, 2, none⟩ = some (.slice P np cp) := hc4.cell 2
  go_simp
  refine hKK.out _ _ ⟨(hi4.far (b := gc) (by omega) 2 (.slice A4 (np + 1) c4)).cell 0, (hm4.far (b := gc) (by omega) 2 (.slice A4 (np + 1) c4)).cell 0, ((hg4.far (b := gc) (by omega) 2 (.slice A4 (np + 1) c4)).cell mid).trans ha, ((hg4.far (b := gc) (by omega) 2 (.slice A4 (np + 1) c4)).cell (mid + 1)).trans hb, fun hh => by cases hh⟩ ?_
  clear hKK KK
  try simp only [Act.put, List.setIfInBounds_toArray, List.set_cons_zero, List.set_cons_succ]
  refine wpAnyB_done (by kernel_rfl) (NoPanic.normal ?_) _
  have hne := hc4.ne_own hown4 (by decide)
  have hO5 := (But.set gc w4 2 (.slice A4 (np + 1) c4)).own hown4 hne
  have hK5 := KeepP.mk1 (gc := gc) B2 hgrow4 2 (.slice A4 (np + 1) c4)
  have hC5 := hc4.set 2 (.slice A4 (np + 1) c4)
  go_end0
  refine ⟨⟨_, rfl⟩, A4, c4, ?_, ?_, ?_⟩
  · first | exact hC5 | exact hC5.drew
  · rw [qsC_app]; first | exact hO5 | exact own_below hO5 (Below.drew (Below.refl _ _))
  · first | exact hK5 | exact hK5.drew
end Go.Proofs.Ytpljaoagiaijiaa
/-
  Plain words: the cloth that a sheet makes, step by step (chapter 17).
-/
namespace Go.Proofs.Ytpljaoagiaijiaa
open Go.RowKit
/-- the line, the crossings and the pins made so far -/
structure Mk where
  l : List Int
  xs : List Q4
  ps : List Q4
def Mk.pin (s : Mk) (i : Int) (mid : Nat) : Mk := { s with ps := s.ps ++ [⟨i, (mid : Int), s.l.getD mid 0, s.l.getD (mid + 1) 0⟩] }
/-- the place of a crossing of a work -/
def mkAt (mid : Nat) (n : Int) : Int := (mid : Int) - 2 + (if n < -n then -n else n)
def mkX (l : List Int) (i : Int) (mid : Nat) (n : Int) : Q4 := if n < 0 then ⟨i, mkAt mid n, l.getD ((mkAt mid n).toNat + 1) 0, l.getD (mkAt mid n).toNat 0⟩ else ⟨i, mkAt mid n, l.getD (mkAt mid n).toNat 0, l.getD ((mkAt mid n).toNat + 1) 0⟩
def Mk.cross (s : Mk) (i : Int) (mid : Nat) (n : Int) : Mk := { s with l := swapL s.l (mkX s.l i mid n), xs := s.xs ++ [mkX s.l i mid n] }
/-- the first k crossings of a letter -/
def Mk.crosses (s : Mk) (i : Int) (mid : Nat) (ns : List Int) : Nat → Mk
  | 0 => s
  | k + 1 => match ns[k]? with
    | some n => (s.crosses i mid ns k).cross i mid n
    | none => s.crosses i mid ns k
def Mk.letter (s : Mk) (i : Int) (mid : Nat) (c : UInt8) : Mk := if c = 80 then s.pin i mid else s.crosses i mid (crW [c] 1) (crW [c] 1).length
/-- the first k letters of a word -/
def Mk.letters (s : Mk) (i : Int) (mid : Nat) (bs : List UInt8) : Nat → Mk
  | 0 => s
  | k + 1 => match bs[k]? with
    | some c => (s.letters i mid bs k).letter i mid c
    | none => s.letters i mid bs k
/-- the place between the two pairs of a work -/
def mkMid (x : Wk) : Nat := 2 * x.at_.toNat + 1
def Mk.work (s : Mk) (i : Nat) (x : Wk) : Mk := (if x.kind = 2 then s.pin (i : Int) (mkMid x) else s).letters (i : Int) (mkMid x) x.word.data.toList x.word.data.toList.length
/-- the first k works of a sheet -/
def Mk.works (ws : List Wk) : Nat → Mk
  | 0 => ⟨lineL 48, [], []⟩
  | k + 1 => match ws[k]? with
    | some x => (Mk.works ws k).work k x
    | none => Mk.works ws k
theorem Mk.cross_len (s : Mk) (i : Int) (mid : Nat) (n : Int) : (s.cross i mid n).l.length = s.l.length := by
  unfold Mk.cross swapL; simp
theorem Mk.crosses_len (s : Mk) (i : Int) (mid : Nat) (ns : List Int) : ∀ k, (s.crosses i mid ns k).l.length = s.l.length
  | 0 => rfl
  | k + 1 => by
    unfold Mk.crosses
    split
    · rw [Mk.cross_len, Mk.crosses_len s i mid ns k]
    · exact Mk.crosses_len s i mid ns k
theorem Mk.letter_len (s : Mk) (i : Int) (mid : Nat) (c : UInt8) : (s.letter i mid c).l.length = s.l.length := by
  unfold Mk.letter
  split
  · rfl
  · exact Mk.crosses_len _ _ _ _ _
theorem Mk.letters_len (s : Mk) (i : Int) (mid : Nat) (bs : List UInt8) : ∀ k, (s.letters i mid bs k).l.length = s.l.length
  | 0 => rfl
  | k + 1 => by
    unfold Mk.letters
    split
    · rw [Mk.letter_len, Mk.letters_len s i mid bs k]
    · exact Mk.letters_len s i mid bs k
theorem Mk.work_len (s : Mk) (i : Nat) (x : Wk) : (s.work i x).l.length = s.l.length := by
  unfold Mk.work
  rw [Mk.letters_len]
  split <;> rfl
theorem Mk.works_len (ws : List Wk) : ∀ k, (Mk.works ws k).l.length = 48
  | 0 => lineL_len 48
  | k + 1 => by
    unfold Mk.works
    split
    · rw [Mk.work_len, Mk.works_len ws k]
    · exact Mk.works_len ws k
/-- two rows of the call's own with elements of two types lie in two blocks -/
theorem own_apart {w : World} {base base' : Nat} {e e' : TypeId} {size size' n n' : Nat} {v v' : Value} {xs xs' : List Value} (h : w.ownsRow base e size v n xs) (h' : w.ownsRow base' e' size' v' n' xs') (hne : e ≠ e') {b : Nat} (hb : v.ownBlock = some b) : v'.ownBlock ≠ some b := by
  rcases h.2 with ⟨rfl, _⟩ | ⟨g, cap, cur, rfl, _, hh, _⟩
  · simp [Value.ownBlock] at hb
  · have hg : g = b := by simpa [Value.ownBlock] using hb
    subst hg
    have hH : Has w g e cur.toList := by unfold Has; rw [hh, Array.toArray_toList]
    exact hH.ne_own h' hne
/-- the example of the document -/
theorem mk_example : (Mk.works [⟨1, 0, ⟨#[67, 84, 80, 67]⟩⟩] 1).xs = [⟨0, 1, 1, 2⟩, ⟨0, 0, 2, 0⟩, ⟨0, 2, 3, 1⟩, ⟨0, 1, 0, 3⟩] ∧ (Mk.works [⟨1, 0, ⟨#[67, 84, 80, 67]⟩⟩] 1).ps = [⟨0, 1, 0, 3⟩] := by decide +kernel
end Go.Proofs.Ytpljaoagiaijiaa
/-
  Contract of sheet.Check, and of slices.ContainsFunc over works with Check's closure.
-/
namespace Go.Proofs.Ytpljaoagiaijiaa
open Go.RowKit
theorem shCheck1 (k a : Int) (s : ByteArray) (w : World) (hs : s.size ≤ 9223372036854775807) :
    Calls Try.prog 60 #[.agg #[.int .i64 k, .int .i64 a, .string s]] w fun e w' => e = .returned (.bool (decide (16 < s.size))) ∧ Below w.heap.size w w' := by
  go_enter Try.func60, Try.ntmps60
  go_wp2
  go_ret
  exact ⟨ret_bool (by simp; omega), by go_grown⟩
/-- some work before the k-th has a long word -/
def someLong (ws : List Wk) : Bool := ws.any fun x => decide (16 < x.word.size)
set_option maxRecDepth 100000 in
set_option maxHeartbeats 400000 in
theorem indexFunc1 (A : Option Addr) (n c : Nat) (ws : List Wk) (w : World) (hn : n ≤ 9223372036854775807) (hw : RdW w w.heap.size A ws) (hl : ws.length = n)
    (hs : ∀ x ∈ ws, x.word.size ≤ 9223372036854775807) :
    Calls Try.prog 70 #[.slice A n c, .func (.func 60) #[] #[]] w fun e w' => ∃ i : Int, e = .returned (.int .i64 i) ∧ decide (0 ≤ i) = someLong ws ∧ Below w.heap.size w w' := by
  have HW := Lib.hid hw; clear hw
  have HL := Lib.hid hl; clear hl
  have HS := Lib.hid hs; clear hs
  go_enter Try.func70, Try.ntmps70
  go_wp2
  go_loopw [8] (fun i wr => ∃ k : Nat, k ≤ n ∧ i = .int .i64 k ∧ Below w.heap.size w wr ∧ (∀ (j : Nat) (x : Wk), j < k → ws[j]? = some x → x.word.size ≤ 16)) (fun i _ => n - (intOf i).toNat)
  case atStart => exact ⟨0, Nat.zero_le _, rfl, by go_grown, fun j _ hj => absurd hj (by omega)⟩
  case round =>
    obtain ⟨k, hk, rfl, hbw, hno⟩ := hrel
    have H := Lib.hid hno; clear hno
    by_cases hlt : k < n
    · obtain ⟨x, hx⟩ := get_of_lt (l := ws) (k := k) (by rw [HL.out]; exact hlt)
      obtain ⟨b, o, rfl, hb, c1, c2, c3⟩ := (HW.out.below hbw (Nat.le_refl _)) k x hx
      have hsx := HS.out x (mem_of_get hx)
      have HX := Lib.hid hx; clear hx
      go_wp2_with (go_at_call 60; refine (shCheck1 _ _ _ _ hsx).mono ?_; rintro e w1 ⟨rfl, hb1⟩)
      · go_ret
        exact ⟨_, rfl, by
          have h16 : 16 < x.word.size := by assumption
          rw [show someLong ws = true from List.any_eq_true.2 ⟨x, mem_of_get HX.out, by simpa using h16⟩]; simp, hbw.trans (hb1.mono hbw.size)⟩
      · go_roundw
        case rel => exact ⟨k + 1, by omega, by go_num, hbw.trans (hb1.mono hbw.size), get_step H.out HX.out (by omega)⟩
        case measure => simp [intOf]; omega
    · go_wp2
      go_ret
      exact ⟨_, rfl, by
        have : someLong ws = false := by
          unfold someLong
          rw [List.any_eq_false]
          intro x hx
          obtain ⟨j, hj, rfl⟩ := List.mem_iff_getElem.1 hx
          have := H.out j _ (by rw [HL.out] at hj; omega) (List.getElem?_eq_getElem hj)
          simp; omega
        rw [this]; simp, hbw⟩
theorem containsFunc1 (A : Option Addr) (n c : Nat) (ws : List Wk) (w : World) (hn : n ≤ 9223372036854775807) (hw : RdW w w.heap.size A ws) (hl : ws.length = n)
    (hs : ∀ x ∈ ws, x.word.size ≤ 9223372036854775807) :
    Calls Try.prog 59 #[.slice A n c, .func (.func 60) #[] #[]] w fun e w' => e = .returned (.bool (someLong ws)) ∧ Below w.heap.size w w' := by
  go_enter Try.func59, Try.ntmps59
  go_wp2_with (go_at_call 70; refine (indexFunc1 _ _ _ _ _ hn hw hl hs).mono ?_; rintro e w' ⟨i, rfl, hi, hb⟩; have HI := Lib.hid hi; clear hi)
  go_ret
  exact ⟨ret_bool (by rw [← HI.out]; try simp), hb⟩
end Go.Proofs.Ytpljaoagiaijiaa
