/-
  Contract of slices.Repeat for works.
-/
import Derived.Test.YtdimfbmbomgiaaaVG1
import Derived.Test.YtdimfbmbomgiaaaVG5
import Derived.Test.YtdimfbmbomgiaaaVG6
import Derived.Test.YtdimfbmbomgiaaaVG9
import Derived.Laws.MakeOwn
import Derived.Deep.RegionHeld3
namespace Go.Proofs.Ytdimfbmbomgiaaa
open Go.RowKit
theorem repW_get {ws : List Wk} : ∀ {k i : Nat}, i < k * ws.length → (repW ws k)[i]? = ws[i % ws.length]?
  | 0, i, h => by omega
  | k + 1, i, h => by
    unfold repW
    have hl := repW_len ws k
    rw [Nat.add_mul, Nat.one_mul] at h
    by_cases e : i < k * ws.length
    · rw [List.getElem?_append_left (by omega), repW_get e]
    · rw [List.getElem?_append_right (by omega), hl]
      congr 1
      have : i = (i - k * ws.length) + k * ws.length := by omega
      rw [this, Nat.add_mul_mod_self_right, Nat.add_sub_cancel, Nat.mod_eq_of_lt (by omega)]
theorem repW_take {ws : List Wk} {k q m d : Nat} (hq : q = d * ws.length) (h : q + m ≤ k * ws.length) : (repW ws k).take (q + m) = (repW ws k).take q ++ (repW ws k).take m := by
  have hl := repW_len ws k
  apply List.ext_getElem?
  intro i
  rw [List.getElem?_take]
  by_cases e : i < q
  · rw [if_pos (by omega), List.getElem?_append_left (by rw [List.length_take]; omega), List.getElem?_take, if_pos e]
  · have hlq : ((repW ws k).take q).length = q := by rw [List.length_take]; omega
    rw [List.getElem?_append_right (by omega), hlq, List.getElem?_take]
    by_cases e2 : i < q + m
    · rw [if_pos e2, if_pos (by omega), repW_get (by omega), repW_get (by omega)]
      congr 1
      have : i = (i - q) + d * ws.length := by omega
      conv => lhs; rw [this]
      rw [Nat.add_mul_mod_self_right]
    · rw [if_neg e2, if_neg (by omega)]
theorem mkWk (n : Nat) (hn : n ≤ 1000) (W : World) : (Instr.makeSlice 22 (.int .i64 (n : Int)) (.int .i64 (n : Int))).run Try.prog W = .ok (.slice (some ⟨W.heap.size, 0, none⟩) n n) (W.alloc (.cells (madeCells #[.int .i64 0, .int .i64 0, .string ⟨#[]⟩] (n * 3)) 63)) := by
  obtain ⟨i, hi, hz, hs, hb⟩ := info_parts infoWk
  have h := run_make (P := Try.prog) W 22 63 i (.agg #[.int .i64 0, .int .i64 0, .string ⟨#[]⟩]) Try.underlying22 hi hz .i64 .i64 (n : Int) (n : Int) (by omega) (Int.le_refl _) (by rw [hb]; omega) (by omega)
  rw [hs] at h
  simpa [Value.cells] using h
theorem splice_wk {a b rest : List Value} {q m : Nat} (hq : a.length = q) (hm : b.length = m) : splice (a ++ rest) q b = (a ++ b) ++ rest.drop m := by
  unfold splice
  rw [List.take_append_of_le_length (by omega), List.take_of_length_le (by omega), List.drop_append, List.drop_of_length_le (by omega), List.nil_append, List.append_assoc]
  congr 2
  congr 1
  omega
theorem rdW_from {w : World} {B : Nat} {A : Option Addr} {ws : List Wk} (h : RdW w B A ws) (hn : 0 < ws.length) : ∃ b o, A = some ⟨b, o, none⟩ ∧ b < B ∧ ∀ j v, (wksCells ws)[j]? = some v → w.cell? ((⟨b, o, none⟩ : Addr).add j) = some v := by
  obtain ⟨x0, hx0⟩ := get_of_lt hn
  obtain ⟨b, o, rfl, hb, _⟩ := h 0 x0 hx0
  refine ⟨b, o, rfl, hb, fun j v hv => ?_⟩
  have hj := lt_of_get hv
  rw [wksCells_len] at hj
  obtain ⟨x, hx⟩ := get_of_lt (l := ws) (k := j / 3) (by omega)
  obtain ⟨e1, e2, e3⟩ := wksCells_get hx
  obtain ⟨b2, o2, hA, _, c0, c1, c2⟩ := h _ x hx
  injection hA with hA
  injection hA with h1 h2
  subst h1; subst h2
  rw [Addr.add_lit]
  have hm : j % 3 = 0 ∨ j % 3 = 1 ∨ j % 3 = 2 := by omega
  rcases hm with hm | hm | hm
  · have : j = j / 3 * 3 := by omega
    rw [this] at hv ⊢
    rw [e1] at hv; rw [← hv]; exact c0
  · have : j = j / 3 * 3 + 1 := by omega
    rw [this] at hv ⊢
    rw [e2] at hv; rw [← hv]; exact c1
  · have : j = j / 3 * 3 + 2 := by omega
    rw [this] at hv ⊢
    rw [e3] at hv; rw [← hv]; exact c2
set_option maxRecDepth 100000 in
set_option maxHeartbeats 1000000 in
theorem repeatW (A : Option Addr) (n c t : Nat) (ws : List Wk) (w : World) (hr : RdW w w.heap.size A ws) (hl : ws.length = n) (hn : n ≤ 400) (ht : 1 ≤ t) (ht2 : t ≤ 200) (hN : t * n ≤ 400) :
    Calls Try.prog 30 #[.slice A n c, .int .i64 (t : Int)] w fun e w' => ∃ g, e = .returned (.slice (some ⟨g, 0, none⟩) (t * n) (t * n)) ∧ w.heap.size ≤ g ∧ Has w' g 63 (wksCells (repW ws t)) ∧ Below w.heap.size w w' := by
  obtain ⟨N, hNe⟩ : ∃ N, N = n * t := ⟨_, rfl⟩
  have hN1 : t * n = N := by rw [hNe, Nat.mul_comm]
  have hN4 : N ≤ 400 := by rw [← hN1]; exact hN
  have hnN : n ≤ N := by rw [hNe]; exact Nat.le_mul_of_pos_right n ht
  have hmk := mkWk N (by omega)
  have d0 : decide ((t : Int) < 0) = false := decide_eq_false (by omega)
  have i1 : IntKind.u64.wrap (t : Int) = (t : Int) := IntWalk.u64_in _ (by omega)
  have i0 : IntKind.u64.wrap (n : Int) = (n : Int) := IntWalk.u64_in _ (by omega)
  have i2 : IntKind.i64.wrap (N : Int) = (N : Int) := IntWalk.i64_in _ (by omega)
  have d1 : decide ((9223372036854775807 : Int) < N) = false := decide_eq_false (by omega)
  have hsz : (Try.prog.info? 63).map (·.size) = some 3 := by kernel_rfl
  rw [hN1]
  have HL := Lib.hid hl
  have HR := Lib.hid hr
  have HN1 := Lib.hid hN1
  have hlen : (wksCells ws).length = n * 3 := by rw [wksCells_len, hl]
  have hzl : (madeCells #[.int .i64 0, .int .i64 0, .string ⟨#[]⟩] (N * 3)).toList.length = N * 3 := by rw [Array.length_toList, size_madeCells]
  have hnew : Has (w.alloc (.cells (madeCells #[.int .i64 0, .int .i64 0, .string ⟨#[]⟩] (N * 3)) 63)) w.heap.size 63 (madeCells #[.int .i64 0, .int .i64 0, .string ⟨#[]⟩] (N * 3)).toList := Has.new (by rw [Array.toArray_toList])
  have hgr : Below w.heap.size w (w.alloc (.cells (madeCells #[.int .i64 0, .int .i64 0, .string ⟨#[]⟩] (N * 3)) 63)) := by go_grown
  have hsrc : 0 < n → ∃ ad, A = some ad ∧ ∀ j v, (wksCells ws)[j]? = some v → (w.alloc (.cells (madeCells #[.int .i64 0, .int .i64 0, .string ⟨#[]⟩] (N * 3)) 63)).cell? (ad.add j) = some v := fun h0 => by
    obtain ⟨b, o, hA, hb, hc⟩ := rdW_from HR.out (by rw [HL.out]; exact h0)
    refine ⟨_, hA, fun j v hv => ?_⟩
    have h1 := hc j v hv
    rw [Addr.add_lit] at h1 ⊢
    exact (World.cell?_of_block (Below.heap_alloc w _ b hb)).trans h1
  have HKK : Hid (n = Nat.min n N) := by show n = min n N; omega
  obtain ⟨Z, hZ⟩ : ∃ Z, Z = madeCells #[.int .i64 0, .int .i64 0, .string ⟨#[]⟩] (N * 3) := ⟨_, rfl⟩
  rw [← hZ] at hnew hgr hsrc hzl
  have hmk2 : ∀ W : World, (Instr.makeSlice 22 (.int .i64 (N : Int)) (.int .i64 (N : Int))).run Try.prog W = .ok (.slice (some ⟨W.heap.size, 0, none⟩) N N) (W.alloc (.cells Z 63)) := fun W => by rw [hmk W, hZ]
  have HNe := Lib.hid hNe
  have HSRC := Lib.hid hsrc
  clear hmk hr hl hZ hN1 hNe hsrc
  have hfit : 0 + (wksCells ws).length ≤ Z.toList.length := by rw [hlen, hzl]; omega
  go_enter Try.func30, Try.ntmps30
  go_wp2_with (first
    | (go_at_call 50; refine (muls n t _ (by omega) (by omega)).mono ?_; rintro e w' ⟨rfl, hw'⟩; have hw' := hw'.symm; subst hw'; rw [← HNe.out])
    | (refine wpList_copyz rfl (.tmp 31) (.tmp 32) 22 22 rfl 63 3 Try.underlying22 hsz _ _ _ _ _ _ rfl rfl n HKK.out w.heap.size 0 Z.toList 63 hnew (wksCells ws) hlen (fun h0 => ⟨rfl, HSRC.out h0⟩) hfit (one_wks ws) w.heap.size w hgr (Nat.le_refl _) ?_))
  intro w2 HG2 hb2
  have HG3 : Hid (∃ rest : List Value, rest.length = (N - n) * 3 ∧ Has w2 w.heap.size 63 (wksCells ((repW ws t).take n) ++ rest)) := by
    refine ⟨Z.toList.drop (n * 3), by rw [List.length_drop, hzl]; omega, ?_⟩
    have h1 : (repW ws t).take n = ws := by
      have h2 := repW_take (ws := ws) (k := t) (q := 0) (m := n) (d := 0) (by simp) (by have := HN1.out; rw [HL.out]; omega)
      apply List.ext_getElem?
      intro i
      rw [List.getElem?_take]
      by_cases e : i < n
      · rw [if_pos e, repW_get (by rw [HL.out]; have := HN1.out; omega), HL.out, Nat.mod_eq_of_lt e]
      · rw [if_neg e, List.getElem?_eq_none (by rw [HL.out]; omega)]
    rw [h1]
    have h3 := HG2.out
    have h4 := splice_wk (a := []) (b := wksCells ws) (rest := Z.toList) (q := 0) (m := n * 3) rfl hlen
    rw [List.nil_append, List.nil_append] at h4
    rw [h4] at h3
    exact h3
  clear HSRC hgr hnew hlen hfit HG2 HKK hzl
  go_wp2
  go_loopw [8] (fun i wr => ∃ q d : Nat, q = d * n ∧ n ≤ q ∧ q ≤ N ∧ i = .int .i64 (q : Int) ∧ Hid (∃ rest : List Value, rest.length = (N - q) * 3 ∧ Has wr w.heap.size 63 (wksCells ((repW ws t).take q) ++ rest)) ∧ Below w.heap.size w wr) (fun i _ => N - (intOf i).toNat)
  case atStart => exact ⟨n, 1, by omega, Nat.le_refl _, hnN, by simp, HG3, hb2⟩
  case round =>
    clear HG3 hb2
    obtain ⟨q, d, hqd, hq1, hq, rfl, HG, hbw⟩ := hrel
    obtain ⟨wo, rfl⟩ : ∃ wo : World, wo = wr := ⟨_, rfl⟩
    have HQD := Lib.hid hqd; clear hqd
    by_cases hlt : q < N
    · have n1 : (0 : Int) ≤ (q : Int) := by omega
      have n2 : (q : Int) ≤ (N : Int) := by omega
      obtain ⟨mm, hmm⟩ : ∃ mm, mm = min q (N - q) := ⟨_, rfl⟩
      have hm0 : 0 < mm := by
        have h := HNe.out
        have : 0 < n := by
          rcases Nat.eq_zero_or_pos n with h0 | h0
          · rw [h0, Nat.zero_mul] at h; omega
          · exact h0
        omega
      have hTq : ¬ N = q := by omega
      have hm1 : q + mm ≤ N := by omega
      have hm2 : mm ≤ q := by omega
      have hrlen : N = (repW ws t).length := by rw [repW_len, HL.out, HN1.out]
      obtain ⟨rest, hrest, hG⟩ := HG.out
      have hwl : (wksCells ((repW ws t).take q)).length = q * 3 := by rw [wksCells_len, List.length_take]; omega
      obtain ⟨cs, hcs⟩ : ∃ cs, cs = wksCells ((repW ws t).take mm) := ⟨_, rfl⟩
      have hlen : cs.length = mm * 3 := by rw [hcs, wksCells_len, List.length_take]; omega
      have hone : ∀ v ∈ cs, v.oneCell' = true := fun v hv => by rw [hcs] at hv; exact one_wks _ v hv
      obtain ⟨cur, hcur⟩ : ∃ cur, cur = wksCells ((repW ws t).take q) ++ rest := ⟨_, rfl⟩
      have hfit : q * 3 + cs.length ≤ cur.length := by rw [hlen, hcur, List.length_append, hwl, hrest]; omega
      have hsrc : ∀ (j : Nat) v, cs[j]? = some v → wo.drew.cell? ((⟨w.heap.size, 0, none⟩ : Addr).add j) = some v := fun j v hv => by
        have hj := lt_of_get hv
        rw [hlen] at hj
        rw [Addr.add_lit, Nat.zero_add, hG.drew.cell, List.getElem?_append_left (by rw [hwl]; omega)]
        rw [hcs, ← wksCells_take _ _ (by omega), List.getElem?_take, if_pos hj] at hv
        rw [← wksCells_take _ _ (by omega), List.getElem?_take, if_pos (by omega)]
        exact hv
      rw [← hcur] at hG
      have hnew := hG.drew
      have hgd : Below w.heap.size w wo.drew := below_drewN hbw 1
      have i3 : IntKind.i64.wrap ((q : Int) + (mm : Int)) = (q : Int) + (mm : Int) := IntWalk.i64_in _ (by omega)
      have HCS := Lib.hid hcs; have HCUR := Lib.hid hcur; have HMM := Lib.hid hmm; have HRL := Lib.hid hrlen; have HRE := Lib.hid hrest; have HWL := Lib.hid hwl
      clear hcs hcur hmm HG hrlen hrest hwl hG
      go_wp2
      go_region_held3 (fun _ => True) (trivial) (first | (refine step_copyz rfl (.tmp 41) (.tmp 44) 22 22 rfl 63 3 Try.underlying22 hsz _ _ _ _ _ _ rfl rfl mm HMM.out w.heap.size (q * 3) cur 63 hnew cs hlen (fun _ => ⟨rfl, _, rfl, hsrc⟩) hfit hone w.heap.size w hgd (Nat.le_refl _) ?_; intro w4 HG4 hb4) | fail)
      go_wp2
      go_roundw
      case rel =>
        refine ⟨q + mm, if mm = q then 2 * d else t, ?_, by omega, hm1, ?_, ?_, hb4⟩
        · split
          · have := HQD.out; rw [Nat.mul_assoc]; omega
          · have := HMM.out; have := HN1.out; have h3 : q + mm = N := by have h4 : mm = min q (N - q) := HMM.out; omega
            omega
        · simp
        · have h := HG4.out
          rw [HCS.out, HCUR.out, splice_wk (m := mm * 3) HWL.out (by rw [← HCS.out]; exact hlen)] at h
          refine ⟨rest.drop (mm * 3), by rw [List.length_drop, HRE.out]; omega, ?_⟩
          rw [repW_take (d := d) (by rw [HQD.out, HL.out]) (by rw [HL.out, HN1.out]; exact hm1), show wksCells ((repW ws t).take q ++ (repW ws t).take mm) = wksCells ((repW ws t).take q) ++ wksCells ((repW ws t).take mm) by simp [wksCells]]
          exact h
      case measure =>
        simp [intOf]
        omega
    · obtain rfl : q = N := by omega
      go_wp2
      go_ret
      obtain ⟨rest, hrest, hG⟩ := HG.out
      rw [Nat.sub_self, Nat.zero_mul] at hrest
      obtain rfl := List.eq_nil_of_length_eq_zero hrest
      rw [List.append_nil, List.take_of_length_le (by rw [repW_len, HL.out, HN1.out]; exact Nat.le_refl _)] at hG
      exact ⟨_, rfl, Nat.le_refl _, hG, hbw⟩
end Go.Proofs.Ytdimfbmbomgiaaa
/-
  Append of a whole slice of works to a row of the call's own.
-/
namespace Go.Proofs.Ytdimfbmbomgiaaa
open Go.RowKit
theorem wpList_appW {w : World} {ops : Array Oper} {rest : List Oper} {o : Oper} {a : Act} {Q : Exit → Act → World → Prop} (hgd : o.guard = none) (s x : Operand)
    (ho : o.op = .call { callee := .builtin .append, args := #[s, x], argTypes := #[22, 22] })
    (base : Nat) (v : Value) (n : Nat) (xs : List Wk) (hs : a.eval s = v) (hown : w.ownsRow base 63 3 v n (wksCells xs))
    (A : Option Addr) (m c : Nat) (ws : List Wk) (hx : a.eval x = .slice A m c) (hr : RdW w w.heap.size A ws) (hl : ws.length = m)
    (hn : n + m ≤ 1000000000) (hbase : base ≤ w.heap.size)
    (h : ∀ A' c' w', w'.ownsRow base 63 3 (.slice A' (n + m) c') (n + m) (wksCells (xs ++ ws)) → w.grownBy w' v.ownBlock → wpList Try.prog ops Q rest (a.put o.dst (.slice A' (n + m) c')) w') :
    wpList Try.prog ops Q (o :: rest) a w := by
  have happ : wksCells xs ++ wksCells ws = wksCells (xs ++ ws) := by simp [wksCells]
  refine wpList_plain hgd fun K hK => ?_
  cases A with
  | none =>
    have hw0 : ws = [] := by
      cases ws with
      | nil => rfl
      | cons y ws => obtain ⟨b, o', e, _⟩ := hr 0 y rfl; cases e
    subst hw0
    obtain rfl : 0 = m := hl
    obtain ⟨B, d, rfl⟩ := own_form hown
    obtain ⟨i, hi, hz, hsize, hb⟩ := info_parts infoWk
    have hcc := own_caps hown
    have hrun := run_app0 (P := Try.prog) w 22 o.type 63 i Try.underlying22 hi B n d c hcc.1
    unfold Oper.wp execOp
    simp only [ho, resolve, invoke, builtin, Sem.run_bind, Sem.run_pure, Result.andThen_ok, List.map_toArray, List.map_cons, List.map_nil, hs, hx, hrun]
    exact hK _ _ (h B d w (by rw [List.append_nil]; exact hown) ⟨rfl, rfl, rfl, Nat.le_refl _, fun _ _ _ => rfl⟩)
  | some ad =>
    refine wp_appN s x 22 ho base 63 (.agg #[.int .i64 0, .int .i64 0, .string ⟨#[]⟩]) 3 32 Try.underlying22 infoWk rfl (by omega) (by omega) v n (wksCells xs) hs hown ad m c (wksCells ws) hx (by rw [wksCells_len, hl]) ?_ (one_wks ws) hn hbase ?_
    · cases ws with
      | nil => intro j u hu; simp [wksCells] at hu
      | cons y ws =>
        obtain ⟨b, o', e, hb, hc⟩ := rdW_from hr (by simp)
        injection e with e
        subst e
        exact hc
    · intro v' w' hown' hgrow' _ _
      obtain ⟨A', c', rfl⟩ := own_form hown'
      exact hK _ _ (h A' c' w' (by rw [← happ]; exact hown') hgrow')
end Go.Proofs.Ytdimfbmbomgiaaa
/-
  Contracts of the functions of torchonref03 (words of moves) that look at letters.
-/
namespace Go.Proofs.Ytdimfbmbomgiaaa
open Go.RowKit
set_option maxHeartbeats 400000 in
theorem index03 (s : ByteArray) (c : UInt8) (w : World) (hs : s.size ≤ 1000) :
    Calls Try.prog 55 #[.string s, .int .u8 c.toNat] w fun e w' => e = .returned (.int .i64 (idxOf s.data.toList c)) ∧ w = w' := by
  go_enter Try.func55, Try.ntmps55
  go_wp2
  go_loop [5] (fun i => ∃ k : Nat, k ≤ s.size ∧ i = .int .i64 k ∧ ∀ j, j < k → s.data.toList[j]? ≠ some c) (fun i => s.size - (intOf i).toNat)
  case atStart => exact ⟨0, Nat.zero_le _, rfl, fun j hj => absurd hj (by omega)⟩
  case round =>
    obtain ⟨k, hk, rfl, hno⟩ := hrel
    have H := Lib.hid hno; clear hno
    by_cases hlt : k < s.size
    · go_wp2
      · go_ret
        exact ⟨ret_int (idxOf_some (idx_split ((str_get s k hlt).trans (congrArg some (byte_eq (by assumption)))) H.out)).symm, rfl⟩
      · go_round
        case rel => exact ⟨k + 1, by omega, by go_num, fun j hj => by
          rcases Nat.lt_or_ge j k with h | h
          · exact H.out j h
          · obtain rfl : j = k := by omega
            rw [str_get s j hlt]
            intro he
            exact byte_ne (by assumption) (Option.some.inj he)⟩
        case measure => simp [intOf]; omega
    · go_wp2
      go_ret
      exact ⟨ret_int (idxOf_none (idx_none fun j hj => H.out j (by rw [str_len] at hj; omega))).symm, rfl⟩

theorem index03_let (c : UInt8) (w : World) :
    Calls Try.prog 55 #[.string ⟨#[67, 84, 76, 82, 80, 99, 116, 108, 114]⟩, .int .u8 c.toNat] w fun e w' => e = .returned (.int .i64 (idxOf letters c)) ∧ w = w' :=
  index03 ⟨#[67, 84, 76, 82, 80, 99, 116, 108, 114]⟩ c w (by decide)

set_option maxHeartbeats 400000 in
theorem check03 (s : ByteArray) (w : World) (hs : s.size ≤ 9223372036854775807) :
    Calls Try.prog 41 #[.string s] w fun e w' => e = .returned (.int .i64 (wchk s)) ∧ w = w' := by
  by_cases hl : 16 < s.size
  · go_enter Try.func41, Try.ntmps41
    go_wp2
    go_ret
    exact ⟨ret_int (wchk_long hl).symm, rfl⟩
  have hl' : s.size ≤ 16 := by omega
  go_enter Try.func41, Try.ntmps41
  go_wp2
  go_loop [3] (fun i => ∃ k : Nat, k ≤ s.size ∧ i = .int .i64 k ∧ ∀ j, ∀ hj : j < s.size, j < k → isLet s[j] = true) (fun i => s.size - (intOf i).toNat)
  case atStart => exact ⟨0, Nat.zero_le _, rfl, fun j _ hj => absurd hj (by omega)⟩
  case round =>
    obtain ⟨k, hk, rfl, hno⟩ := hrel
    have H := Lib.hid hno; clear hno
    by_cases hlt : k < s.size
    · by_cases hc : 0 ≤ idxOf letters s[k]
      · go_wp2_with (go_at_call 55; refine (index03_let _ _).mono ?_; rintro e w' ⟨rfl, rfl⟩)
        go_round
        case rel => exact ⟨k + 1, by omega, by go_num, fun j hs' hj => by
          rcases Nat.lt_or_ge j k with h | h
          · exact H.out j hs' h
          · obtain rfl : j = k := by omega
            exact (isLet_iff _).2 hc⟩
        case measure => simp [intOf]; omega
      · have hc' : idxOf letters s[k] < 0 := by omega
        go_wp2_with (go_at_call 55; refine (index03_let _ _).mono ?_; rintro e w' ⟨rfl, rfl⟩)
        go_ret
        exact ⟨ret_int (wchk_bad hl' (wOk_not hlt (idx_no hc'))).symm, rfl⟩
    · go_wp2
      go_ret
      exact ⟨ret_int (wchk_ok hl' (wOk_of fun j hj => H.out j hj (by omega))).symm, rfl⟩

end Go.Proofs.Ytdimfbmbomgiaaa
/-
  Contracts of torchonref04: Check, Touch, Same, SameInts.
-/
namespace Go.Proofs.Ytdimfbmbomgiaaa
open Go.RowKit
set_option maxHeartbeats 1000000 in
theorem check04 (p : Int) (A : Option Addr) (n c : Nat) (ws : List Wk) (w : World) (hn : n ≤ 9223372036854775807) (hw : RdW w w.heap.size A ws) (hl : ws.length = n)
    (hs : ∀ x ∈ ws, x.word.size ≤ 9223372036854775807) :
    Calls Try.prog 23 #[.agg #[.int .i64 p, .slice A n c]] w fun e w' => e = .returned (.int .i64 (schk p ws)) ∧ Below w.heap.size w w' := by
  have HW := Lib.hid hw; clear hw
  have HL := Lib.hid hl; clear hl
  have HS := Lib.hid hs; clear hs
  by_cases hp : 24 < p
  · go_enter Try.func23, Try.ntmps23
    go_wp2
    go_ret
    exact ⟨ret_int (schk_long (.inl hp)).symm, by go_grown⟩
  by_cases hn4 : 400 < n
  · go_enter Try.func23, Try.ntmps23
    go_wp2
    go_ret
    exact ⟨ret_int (schk_long (.inr (.inl (by rw [HL.out]; exact hn4)))).symm, by go_grown⟩
  have hp' : p ≤ 24 := by omega
  have hn4' : n ≤ 400 := by omega
  clear hp hn4
  go_enter Try.func23, Try.ntmps23
  go_wp2
  go_loop [3] (fun i => ∃ k : Nat, k ≤ n ∧ i = .int .i64 k ∧ ∀ (j : Nat) (x : Wk), j < k → ws[j]? = some x → x.word.size ≤ 16) (fun i => n - (intOf i).toNat)
  case atStart => exact ⟨0, Nat.zero_le _, rfl, fun j _ hj => absurd hj (by omega)⟩
  case round =>
    obtain ⟨k, hk, rfl, hno⟩ := hrel
    have H := Lib.hid hno; clear hno
    by_cases hlt : k < n
    · obtain ⟨x, hx⟩ := get_of_lt (l := ws) (k := k) (by rw [HL.out]; exact hlt)
      obtain ⟨b, o, rfl, hb, c1, c2, c3⟩ := HW.out k x hx
      have hsx := HS.out x (mem_of_get hx)
      have HX := Lib.hid hx; clear hx
      by_cases h16 : 16 < x.word.size
      · go_wp2
        go_ret
        exact ⟨ret_int (schk_long (.inr (.inr ⟨k, x, HX.out, h16⟩))).symm, by go_grown⟩
      · go_wp2
        go_round
        case rel => exact ⟨k + 1, by omega, by go_num, fun j y hj hy => by
          rcases Nat.lt_or_ge j k with h | h
          · exact H.out j y h hy
          · obtain rfl : j = k := by omega
            rw [HX.out] at hy
            obtain rfl := Option.some.inj hy
            omega⟩
        case measure => simp [intOf]; omega
    · have H16 : Hid (∀ (j : Nat) (x : Wk), ws[j]? = some x → x.word.size ≤ 16) := fun j x hx => H.out j x (by have := lt_of_get hx; rw [HL.out] at this; omega) hx
      clear H
      by_cases h2 : p < 2
      · go_wp2
        go_ret
        exact ⟨ret_int (schk_arg hp' (by rw [HL.out]; exact hn4') H16.out (.inl h2)).symm, by go_grown⟩
      have h2' : 2 ≤ p := by omega
      clear h2
      go_wp2
      go_loopw [4, 5] (fun i _ wr => ∃ k : Nat, k ≤ n ∧ i = .int .i64 k ∧ Below w.heap.size w wr ∧ wr.cell? ⟨w.heap.size, 0, none⟩ = some (.int .i64 p) ∧ wr.cell? ⟨w.heap.size, 1, none⟩ = some (.slice A n c) ∧ w.heap.size < wr.heap.size ∧ (∀ (j : Nat) (x : Wk), j < k → ws[j]? = some x → wkBad p x = false)) (fun i _ _ => n - (intOf i).toNat)
      case atStart => exact ⟨0, Nat.zero_le _, rfl, by go_grown, by go_simp, by go_simp, by go_grown, fun j _ hj => absurd hj (by omega)⟩
      case round =>
        obtain ⟨k, hk, rfl, hbw, d0, d1, hz, hno⟩ := hrel
        have H := Lib.hid hno; clear hno
        by_cases hlt : k < n
        · obtain ⟨x, hx⟩ := get_of_lt (l := ws) (k := k) (by rw [HL.out]; exact hlt)
          obtain ⟨b, o, rfl, hb, c1, c2, c3⟩ := (HW.out.below hbw (Nat.le_refl _)) k x hx
          have HX := Lib.hid hx; clear hx
          go_wp2
          all_goals first
            | (go_roundw
               case rel => exact ⟨k + 1, by omega, by go_num, by go_grown, by go_simp, by go_simp, by go_grown, get_step H.out HX.out (wkGood_of (by first | exact .inl ‹_› | exact .inr ⟨‹_›, ‹_›⟩) ‹_› ‹_›)⟩
               case measure => simp [intOf]; omega)
            | (go_ret
               exact ⟨ret_int (schk_arg hp' (by rw [HL.out]; exact hn4') H16.out (.inr ⟨k, x, HX.out, wkBad_of (by first | exact .inl ⟨‹_›, ‹_›⟩ | exact .inr (.inl ‹_›) | exact .inr (.inr (.inl ‹_›)) | exact .inr (.inr (.inr ⟨‹_›, ‹_›⟩)))⟩)).symm, by go_grown⟩)
        · have HB : Hid (∀ (j : Nat) (x : Wk), ws[j]? = some x → wkBad p x = false) := get_all H.out (by rw [HL.out]; omega)
          clear H
          go_wp2
          go_loopw [6] (fun i wr => ∃ k : Nat, k ≤ n ∧ i = .int .i64 k ∧ Below w.heap.size w wr ∧ wr.cell? ⟨w.heap.size, 0, none⟩ = some (.int .i64 p) ∧ wr.cell? ⟨w.heap.size, 1, none⟩ = some (.slice A n c) ∧ w.heap.size < wr.heap.size ∧ (∀ (j : Nat) (x : Wk), j < k → ws[j]? = some x → wOk x.word = true)) (fun i _ => n - (intOf i).toNat)
          case atStart => exact ⟨0, Nat.zero_le _, rfl, hbw, d0, d1, hz, fun j _ hj => absurd hj (by omega)⟩
          case round =>
            clear hbw d0 d1 hz
            obtain ⟨k, hk, rfl, hbw, d0, d1, hz, hno⟩ := hrel
            have H := Lib.hid hno; clear hno
            by_cases hlt : k < n
            · obtain ⟨x, hx⟩ := get_of_lt (l := ws) (k := k) (by rw [HL.out]; exact hlt)
              obtain ⟨b, o, rfl, hb, c1, c2, c3⟩ := (HW.out.below hbw (Nat.le_refl _)) k x hx
              have hsx := HS.out x (mem_of_get hx)
              have h16 := H16.out k x hx
              have HX := Lib.hid hx; clear hx
              by_cases hwx : wOk x.word = true
              · have hc0 := Lib.hid (wchk_ok h16 hwx)
                have hwx' := Lib.hid hwx; clear hwx
                go_wp2_with (go_at_call 41; refine (check03 _ _ hsx).mono ?_; rintro e w' ⟨rfl, rfl⟩; rw [hc0.out])
                go_roundw
                case rel => exact ⟨k + 1, by omega, by go_num, hbw, d0, d1, hz, get_step H.out HX.out hwx'.out⟩
                case measure => simp [intOf]; omega
              · have hwx2 : wOk x.word = false := by simpa using hwx
                have hc0 := Lib.hid (wchk_bad h16 hwx2)
                clear hwx
                have hwx' := Lib.hid hwx2; clear hwx2
                go_wp2_with (go_at_call 41; refine (check03 _ _ hsx).mono ?_; rintro e w' ⟨rfl, rfl⟩; rw [hc0.out])
                go_ret
                exact ⟨ret_int (schk_bad hp' (by rw [HL.out]; exact hn4') H16.out h2' HB.out ⟨k, x, HX.out, hwx'.out⟩).symm, hbw⟩
            · go_wp2
              go_ret
              exact ⟨ret_int (schk_ok hp' (by rw [HL.out]; exact hn4') H16.out h2' HB.out (get_all H.out (by rw [HL.out]; omega))).symm, hbw⟩
end Go.Proofs.Ytdimfbmbomgiaaa
/-
  Contracts of seams.Repeat and torchonref24.Repeat.
-/
namespace Go.Proofs.Ytdimfbmbomgiaaa
open Go.RowKit
/-- the error of a sheet and a number of repetitions -/
def repE (p : Int) (ws : List Wk) (t : Int) : Int := if schk p ws ≠ 0 then schk p ws else if t < 1 ∨ 200 < t then 2 else if 400 < t * (ws.length : Int) then 3 else 0
def repP (p : Int) (ws : List Wk) (t : Int) : Int := if repE p ws t = 0 then p else 0
def repL (p : Int) (ws : List Wk) (t : Int) : List Wk := if repE p ws t = 0 then repW ws t.toNat else []
theorem rep_bad {p t er : Int} {ws : List Wk} (h : repE p ws t = er) (h0 : er ≠ 0) : repP p ws t = 0 ∧ repL p ws t = [] := by
  unfold repP repL; rw [h, if_neg h0, if_neg h0]; exact ⟨rfl, rfl⟩
theorem sheet0 {w w1 : World} {p : Int} {A : Option Addr} {n c : Nat} (hb1 : Below ((w.alloc (.cells #[.int .i64 p, .slice A n c] 24)).alloc (.cells #[.int .i64 0, .slice none 0 0] 24)).heap.size ((w.alloc (.cells #[.int .i64 p, .slice A n c] 24)).alloc (.cells #[.int .i64 0, .slice none 0 0] 24)) w1) : Has w1 w.heap.size 24 [.int .i64 p, .slice A n c] ∧ Has w1 (w.heap.size + 1) 24 [.int .i64 0, .slice none 0 0] := by
  have h0 : Has (w.alloc (.cells #[.int .i64 p, .slice A n c] 24)) w.heap.size 24 [.int .i64 p, .slice A n c] := Has.new rfl
  have h1 := Has.new (w := w.alloc (.cells #[.int .i64 p, .slice A n c] 24)) (arr := #[.int .i64 0, .slice none 0 0]) (t := 24) (cs := [.int .i64 0, .slice none 0 0]) rfl
  simp only [World.size_alloc] at h1
  exact ⟨(h0.alloc _).below hb1 (by simp only [World.size_alloc]; omega), h1.below hb1 (by simp only [World.size_alloc]; omega)⟩
theorem rdW_has {w : World} {g : Nat} {t : TypeId} {ws : List Wk} (h : Has w g t (wksCells ws)) : RdW w w.heap.size (some ⟨g, 0, none⟩) ws := fun k x hx => by
  obtain ⟨e1, e2, e3⟩ := wksCells_get hx
  exact ⟨g, 0, rfl, h.lt, by rw [Nat.zero_add, h.cell]; exact e1, by rw [Nat.zero_add, h.cell]; exact e2, by rw [Nat.zero_add, h.cell]; exact e3⟩
set_option maxRecDepth 100000 in
set_option maxHeartbeats 2000000 in
theorem repeat11 (p : Int) (A : Option Addr) (n c : Nat) (t : Int) (ws : List Wk) (w : World) (hn : n ≤ 9223372036854775807) (hw : RdW w w.heap.size A ws) (hl : ws.length = n)
    (hs : ∀ x ∈ ws, x.word.size ≤ 9223372036854775807) :
    Calls Try.prog 11 #[.agg #[.int .i64 p, .slice A n c], .int .i64 t] w (fun e w' => RetSE (repP p ws t) (repL p ws t) (repE p ws t) w e w') := by
  have HW := Lib.hid hw
  have HL := Lib.hid hl
  have C := Lib.hid (fun (W : World) (hb : Below w.heap.size w W) => shCheck p A n c ws W hn (hw.up hb) hl hs)
  clear hw hl hs
  by_cases hE : schk p ws = 0
  case neg =>
    have e : repE p ws t = schk p ws := by unfold repE; rw [if_pos hE]
    obtain ⟨e1, e2⟩ := rep_bad e hE
    rw [e, e1, e2]
    have hd : (schk p ws != 0) = true := by simpa using hE
    generalize schk p ws = q at *
    clear hE e e1 e2
    go_enter Try.func11, Try.ntmps11
    go_wp2_with fail
    refine (C.out _ (by go_grown)).mono ?_
    rintro e w1 ⟨rfl, hb1⟩
    obtain ⟨_, h1⟩ := sheet0 hb1
    have m0 := h1.cell 0
    have m1 := h1.cell 1
    have f0 := h1.free 0
    have f1 := h1.free 1
    go_wp2
    refine post_cell_tmp ((h1.set 0 _).set 1 _) rfl rfl rfl rfl Try.underlying24 (by kernel_rfl) ?_
    exact ⟨_, _, _, rfl, RdW.nil _ _ _, rfl, Nat.zero_le _, by omega, ((bvia (by go_grown) hb1).setCell (by simp) _).setCell (by simp) _⟩
  have HOK := Lib.hid (schk_zero hE)
  rw [hE] at C
  have hn4 : n ≤ 400 := by have := HOK.out.len; rw [HL.out] at this; exact this
  by_cases ht : t < 1 ∨ 200 < t
  · have e : repE p ws t = 2 := by unfold repE; rw [if_neg (by simpa using hE), if_pos ht]
    obtain ⟨e1, e2⟩ := rep_bad e (by omega)
    rw [e, e1, e2]
    clear e e1 e2 hE
    go_enter Try.func11, Try.ntmps11
    go_wp2_with fail
    refine (C.out _ (by go_grown)).mono ?_
    rintro e w1 ⟨rfl, hb1⟩
    obtain ⟨_, h1⟩ := sheet0 hb1
    have m0 := h1.cell 0
    have m1 := h1.cell 1
    have f0 := h1.free 0
    have f1 := h1.free 1
    have HB := Lib.hid (bvia (show Below w.heap.size w _ by go_grown) hb1)
    have HH := Lib.hid h1
    clear h1 hb1
    rcases ht with ht | ht
    · have d1 : decide (t < 1) = true := decide_eq_true ht
      go_wp2
      refine post_cell_tmp ((HH.out.set 0 _).set 1 _) rfl rfl rfl rfl Try.underlying24 (by kernel_rfl) ?_
      exact ⟨_, _, _, rfl, RdW.nil _ _ _, rfl, Nat.zero_le _, by omega, (HB.out.setCell (by simp) _).setCell (by simp) _⟩
    · have d1 : decide (t < 1) = false := decide_eq_false (by omega)
      have d2 : decide (200 < t) = true := decide_eq_true ht
      go_wp2
      refine post_cell_tmp ((HH.out.set 0 _).set 1 _) rfl rfl rfl rfl Try.underlying24 (by kernel_rfl) ?_
      exact ⟨_, _, _, rfl, RdW.nil _ _ _, rfl, Nat.zero_le _, by omega, (HB.out.setCell (by simp) _).setCell (by simp) _⟩
  obtain ⟨T, rfl⟩ := Int.eq_ofNat_of_zero_le (show 0 ≤ t by omega)
  have d1 : decide ((T : Int) < 1) = false := decide_eq_false (by omega)
  have d2 : decide (200 < (T : Int)) = false := decide_eq_false (by omega)
  have hT : T ≤ 200 := by omega
  have hTn : T * n ≤ 80000 := by have := Nat.mul_le_mul hT hn4; omega
  have eM : (T : Int) * (n : Int) = ((T * n : Nat) : Int) := (Int.natCast_mul T n).symm
  have i1 : IntKind.i64.wrap ((T : Int) * (n : Int)) = ((T * n : Nat) : Int) := by rw [eM]; exact IntWalk.i64_in _ (by omega)
  by_cases h4 : 400 < T * n
  · have e : repE p ws (T : Int) = 3 := by unfold repE; rw [if_neg (by simpa using hE), if_neg ht, if_pos (by rw [HL.out, eM]; omega)]
    obtain ⟨e1, e2⟩ := rep_bad e (by omega)
    rw [e, e1, e2]
    have d3 : decide ((400 : Int) < ((T * n : Nat) : Int)) = true := decide_eq_true (by omega)
    generalize T * n = Tn at *
    clear e e1 e2 hE ht eM
    go_enter Try.func11, Try.ntmps11
    go_wp2_with fail
    refine (C.out _ (by go_grown)).mono ?_
    rintro e w1 ⟨rfl, hb1⟩
    obtain ⟨h0, h1⟩ := sheet0 hb1
    have m0 := h1.cell 0
    have m1 := h1.cell 1
    have f0 := h1.free 0
    have f1 := h1.free 1
    have n1 : w1.cell? ⟨w.heap.size, 1, none⟩ = some (.slice A n c) := h0.cell 1
    have q0 := h0.lt
    have HB := Lib.hid (bvia (show Below w.heap.size w _ by go_grown) hb1)
    have HH := Lib.hid h1
    clear h1 hb1 h0
    go_wp2
    refine post_cell_tmp ((HH.out.set 0 _).set 1 _) rfl rfl rfl rfl Try.underlying24 (by kernel_rfl) ?_
    exact ⟨_, _, _, rfl, RdW.nil _ _ _, rfl, Nat.zero_le _, by omega, (HB.out.setCell (by simp) _).setCell (by simp) _⟩
  · have e : repE p ws (T : Int) = 0 := by unfold repE; rw [if_neg (by simpa using hE), if_neg ht, if_neg (by rw [HL.out, eM]; omega)]
    have e1 : repP p ws (T : Int) = p := by unfold repP; rw [if_pos e]
    have e2 : repL p ws (T : Int) = repW ws T := by unfold repL; rw [if_pos e]; simp
    rw [e, e1, e2]
    have d3 : decide ((400 : Int) < ((T * n : Nat) : Int)) = false := decide_eq_false (by omega)
    have CR := Lib.hid (fun (W : World) (hb : Below w.heap.size w W) => repeatW A n c T ws W (HW.out.up hb) HL.out hn4 (by omega) hT (by omega))
    have HLR : Hid ((repW ws T).length = T * n) := by show _ = _; rw [repW_len, HL.out]
    have h4' : T * n ≤ 400 := by omega
    generalize T * n = Tn at *
    clear e e1 e2 hE ht eM h4
    go_enter Try.func11, Try.ntmps11
    go_wp2_with fail
    refine (C.out _ (by go_grown)).mono ?_
    rintro e w1 ⟨rfl, hb1⟩
    obtain ⟨h0, h1⟩ := sheet0 hb1
    have n0 : w1.cell? ⟨w.heap.size, 0, none⟩ = some (.int .i64 p) := h0.cell 0
    have n1 : w1.cell? ⟨w.heap.size, 1, none⟩ = some (.slice A n c) := h0.cell 1
    have q0 := h0.lt
    have HB := Lib.hid (bvia (show Below w.heap.size w _ by go_grown) hb1)
    have HH := Lib.hid h1
    have H0 := Lib.hid h0
    clear h1 hb1 h0
    go_wp2
    go_region_held3 (fun W => W.cell? ⟨w.heap.size, 0, none⟩ = some (.int .i64 p) ∧ W.cell? ⟨w.heap.size, 1, none⟩ = some (.slice A n c)) (first | exact ⟨n0, n1⟩ | exact ⟨(H0.out.drew.below hb2 H0.out.lt).cell 0, (H0.out.drew.below hb2 H0.out.lt).cell 1⟩ | go_keep) (first | (go_simp; go_at_call 30; refine (CR.out _ (below_drewN HB.out 1)).mono ?_; rintro e w2 ⟨g, rfl, hg, hG, hb2⟩; have HH2 := HH.out.drew.below hb2 HH.out.lt; have m0 := HH2.cell 0; have m1 := HH2.cell 1; have f0 := HH2.free 0; have f1 := HH2.free 1) | fail)
    go_wp2
    refine post_cell_tmp ((HH2.set 0 _).set 1 _) rfl rfl rfl rfl Try.underlying24 (by kernel_rfl) ?_
    have q1 := HH.out.lt
    have q2 : (w1.drewN 1).heap.size = w1.heap.size := rfl
    refine ⟨some ⟨g, 0, none⟩, Tn, Tn, rfl, rdW_has ((hG.far (by omega) 0 _).far (by omega) 1 _), HLR.out, Nat.le_refl _, by omega, ?_⟩
    exact (((below_drewN HB.out 1).trans (hb2.mono (Nat.le_trans HB.out.size (Nat.le_refl _)))).setCell (by simp) _).setCell (by simp) _
set_option maxRecDepth 100000 in
set_option maxHeartbeats 2000000 in
theorem repeat12 (p : Int) (A : Option Addr) (n c : Nat) (t : Int) (ws : List Wk) (w : World) (hn : n ≤ 9223372036854775807) (hw : RdW w w.heap.size A ws) (hl : ws.length = n)
    (hs : ∀ x ∈ ws, x.word.size ≤ 9223372036854775807) :
    Calls Try.prog 12 #[.agg #[.int .i64 p, .slice A n c], .int .i64 t] w (fun e w' => RetSE (repP p ws t) (repL p ws t) (repE p ws t) w e w') := by
  have HW := Lib.hid hw
  have HL := Lib.hid hl
  have C := Lib.hid (fun (W : World) (hb : Below w.heap.size w W) => check04 p A n c ws W hn (hw.up hb) hl hs)
  clear hw hl hs
  by_cases hE : schk p ws = 0
  case neg =>
    have e : repE p ws t = schk p ws := by unfold repE; rw [if_pos hE]
    obtain ⟨e1, e2⟩ := rep_bad e hE
    rw [e, e1, e2]
    have hd : (schk p ws != 0) = true := by simpa using hE
    generalize schk p ws = q at *
    clear hE e e1 e2
    go_enter Try.func12, Try.ntmps12
    go_wp2_with fail
    refine (C.out _ (by go_grown)).mono ?_
    rintro e w1 ⟨rfl, hb1⟩
    obtain ⟨_, h1⟩ := sheet0 hb1
    have m0 := h1.cell 0
    have m1 := h1.cell 1
    have f0 := h1.free 0
    have f1 := h1.free 1
    go_wp2
    refine post_cell_tmp ((h1.set 0 _).set 1 _) rfl rfl rfl rfl Try.underlying24 (by kernel_rfl) ?_
    exact ⟨_, _, _, rfl, RdW.nil _ _ _, rfl, Nat.zero_le _, by omega, ((bvia (by go_grown) hb1).setCell (by simp) _).setCell (by simp) _⟩
  have HOK := Lib.hid (schk_zero hE)
  rw [hE] at C
  have hn4 : n ≤ 400 := by have := HOK.out.len; rw [HL.out] at this; exact this
  by_cases ht : t < 1 ∨ 200 < t
  · have e : repE p ws t = 2 := by unfold repE; rw [if_neg (by simpa using hE), if_pos ht]
    obtain ⟨e1, e2⟩ := rep_bad e (by omega)
    rw [e, e1, e2]
    clear e e1 e2 hE
    go_enter Try.func12, Try.ntmps12
    go_wp2_with fail
    refine (C.out _ (by go_grown)).mono ?_
    rintro e w1 ⟨rfl, hb1⟩
    obtain ⟨_, h1⟩ := sheet0 hb1
    have m0 := h1.cell 0
    have m1 := h1.cell 1
    have f0 := h1.free 0
    have f1 := h1.free 1
    have HB := Lib.hid (bvia (show Below w.heap.size w _ by go_grown) hb1)
    have HH := Lib.hid h1
    clear h1 hb1
    rcases ht with ht | ht
    · have d1 : decide (t < 1) = true := decide_eq_true ht
      go_wp2
      refine post_cell_tmp ((HH.out.set 0 _).set 1 _) rfl rfl rfl rfl Try.underlying24 (by kernel_rfl) ?_
      exact ⟨_, _, _, rfl, RdW.nil _ _ _, rfl, Nat.zero_le _, by omega, (HB.out.setCell (by simp) _).setCell (by simp) _⟩
    · have d1 : decide (t < 1) = false := decide_eq_false (by omega)
      have d2 : decide (200 < t) = true := decide_eq_true ht
      go_wp2
      refine post_cell_tmp ((HH.out.set 0 _).set 1 _) rfl rfl rfl rfl Try.underlying24 (by kernel_rfl) ?_
      exact ⟨_, _, _, rfl, RdW.nil _ _ _, rfl, Nat.zero_le _, by omega, (HB.out.setCell (by simp) _).setCell (by simp) _⟩
  obtain ⟨T, rfl⟩ := Int.eq_ofNat_of_zero_le (show 0 ≤ t by omega)
  have d1 : decide ((T : Int) < 1) = false := decide_eq_false (by omega)
  have d2 : decide (200 < (T : Int)) = false := decide_eq_false (by omega)
  have hT : T ≤ 200 := by omega
  have hTn : T * n ≤ 80000 := by have := Nat.mul_le_mul hT hn4; omega
  have eM : (T : Int) * (n : Int) = ((T * n : Nat) : Int) := (Int.natCast_mul T n).symm
  have i1 : IntKind.i64.wrap ((T : Int) * (n : Int)) = ((T * n : Nat) : Int) := by rw [eM]; exact IntWalk.i64_in _ (by omega)
  by_cases h4 : 400 < T * n
  · have e : repE p ws (T : Int) = 3 := by unfold repE; rw [if_neg (by simpa using hE), if_neg ht, if_pos (by rw [HL.out, eM]; omega)]
    obtain ⟨e1, e2⟩ := rep_bad e (by omega)
    rw [e, e1, e2]
    have d3 : decide ((400 : Int) < ((T * n : Nat) : Int)) = true := decide_eq_true (by omega)
    generalize T * n = Tn at *
    clear e e1 e2 hE ht eM
    go_enter Try.func12, Try.ntmps12
    go_wp2_with fail
    refine (C.out _ (by go_grown)).mono ?_
    rintro e w1 ⟨rfl, hb1⟩
    obtain ⟨h0, h1⟩ := sheet0 hb1
    have m0 := h1.cell 0
    have m1 := h1.cell 1
    have f0 := h1.free 0
    have f1 := h1.free 1
    have n1 : w1.cell? ⟨w.heap.size, 1, none⟩ = some (.slice A n c) := h0.cell 1
    have q0 := h0.lt
    have HB := Lib.hid (bvia (show Below w.heap.size w _ by go_grown) hb1)
    have HH := Lib.hid h1
    clear h1 hb1 h0
    go_wp2
    refine post_cell_tmp ((HH.out.set 0 _).set 1 _) rfl rfl rfl rfl Try.underlying24 (by kernel_rfl) ?_
    exact ⟨_, _, _, rfl, RdW.nil _ _ _, rfl, Nat.zero_le _, by omega, (HB.out.setCell (by simp) _).setCell (by simp) _⟩
  · have e : repE p ws (T : Int) = 0 := by unfold repE; rw [if_neg (by simpa using hE), if_neg ht, if_neg (by rw [HL.out, eM]; omega)]
    have e1 : repP p ws (T : Int) = p := by unfold repP; rw [if_pos e]
    have e2 : repL p ws (T : Int) = repW ws T := by unfold repL; rw [if_pos e]; simp
    rw [e, e1, e2]
    have HLR : Hid ((repW ws T).length = T * n) := by show _ = _; rw [repW_len, HL.out]
    have d3 : decide ((400 : Int) < ((T * n : Nat) : Int)) = false := decide_eq_false (by omega)
    have h4' : T * n ≤ 400 := by omega
    generalize hTe : T * n = Tn at *
    have HTe := Lib.hid hTe
    clear hTe
    clear e e1 e2 hE ht eM h4
    go_enter Try.func12, Try.ntmps12
    go_wp2_with fail
    refine (C.out _ (by go_grown)).mono ?_
    rintro e w1 ⟨rfl, hb1⟩
    obtain ⟨h0, h1⟩ := sheet0 hb1
    have n0 : w1.cell? ⟨w.heap.size, 0, none⟩ = some (.int .i64 p) := h0.cell 0
    have n1 : w1.cell? ⟨w.heap.size, 1, none⟩ = some (.slice A n c) := h0.cell 1
    have q0 := h0.lt
    have HB := Lib.hid (bvia (show Below w.heap.size w _ by go_grown) hb1)
    have HH := Lib.hid h1
    have H0 := Lib.hid h0
    clear h1 hb1 h0
    go_wp2
    go_loopw [8] (fun v wr => ∃ (k : Nat) (X : Option Addr) (d : Nat), k ≤ T ∧ v = .int .i64 (k : Int) ∧ Hid (Has wr w1.heap.size 24 [.int .i64 p, .slice X (k * n) d]) ∧ Hid (wr.ownsRow w.heap.size 63 3 (.slice X (k * n) d) (k * n) (wksCells (repW ws k))) ∧ Hid (Has wr w.heap.size 24 [.int .i64 p, .slice A n c]) ∧ Hid (Has wr (w.heap.size + 1) 24 [.int .i64 0, .slice none 0 0]) ∧ Hid (Below w.heap.size w wr)) (fun i _ => T - (intOf i).toNat)
    case atStart =>
      refine ⟨0, none, 0, Nat.zero_le _, rfl, ?_, ?_, ?_, ?_, ?_⟩
      · rw [Nat.zero_mul]; exact Has.new rfl
      · show World.ownsRow _ _ _ _ _ _ _
        rw [Nat.zero_mul]; exact World.ownsRow_nil _ _ _ _
      · exact H0.out.alloc _
      · exact HH.out.alloc _
      · exact HB.out.alloc (Nat.le_trans HB.out.size (Nat.le_refl _)) _
    case round =>
      have hg7 : w.heap.size + 1 < w1.heap.size := HH.out.lt
      clear n0 n1 q0 HB HH H0
      obtain ⟨k, X, d, hk, rfl, HG, HO, H0, HH, HB⟩ := hrel
      obtain ⟨wo, rfl⟩ : ∃ wo : World, wo = wr := ⟨_, rfl⟩
      have n1 : wo.cell? ⟨w.heap.size, 1, none⟩ = some (.slice A n c) := H0.out.cell 1
      have q0 := H0.out.lt
      have g0 : wo.cell? ⟨w1.heap.size, 0, none⟩ = some (.int .i64 p) := HG.out.cell 0
      have g1 : wo.cell? ⟨w1.heap.size, 1, none⟩ = some (.slice X (k * n) d) := HG.out.cell 1
      have qg := HG.out.lt
      by_cases hlt : k < T
      · have jk : (k : Int) < (T : Int) := by omega
        have hkn : k * n ≤ 80000 := by have := Nat.mul_le_mul (show k ≤ 200 by omega) hn4; omega
        have hne := HG.out.ne_own HO.out (by decide)
        have hne0 := H0.out.ne_own HO.out (by decide)
        have hneH := HH.out.ne_own HO.out (by decide)
        go_wp2_with (at_builtin; go_loud (refine wpList_appW rfl (.tmp 38) (.tmp 40) rfl w.heap.size (.slice X (k * n) d) (k * n) _ rfl HO.out A n c ws rfl (HW.out.up HB.out) HL.out (by omega) (by omega) ?_; intro A7 c7 w7 hown7 hgrow7; have hG7 := HG.out.same (hgrow7.block _ qg (fun e => hne e.symm)); have f1 := hG7.free 1; have m1 := hG7.cell 1; have q7 := hG7.lt))
        have h07 := H0.out.same (hgrow7.block _ q0 (fun e => hne0 e.symm))
        have hH7 := HH.out.same (hgrow7.block _ HH.out.lt (fun e => hneH e.symm))
        have hn7 := hG7.ne_own hown7 (by decide)
        have B7 : Hid (Below w.heap.size w w7) := HB.out.grown hgrow7 (Nat.le_trans HB.out.size (Nat.le_refl _)) (fun kk hk => (HO.out.lt kk hk).1)
        have HG7 := Lib.hid hG7; have H07 := Lib.hid h07; have HH7 := Lib.hid hH7; have HO7 := Lib.hid hown7; have HN7 := Lib.hid hn7
        clear hG7 h07 hH7 hown7 hgrow7 hn7 hne hne0 hneH g0 g1 n1
        go_roundw
        case rel =>
          have e1 : (k + 1) * n = k * n + n := by rw [Nat.add_mul, Nat.one_mul]
          refine ⟨k + 1, A7, c7, by omega, by go_num, ?_, ?_, H07.out.far (by omega) _ _, HH7.out.far (by omega) _ _, B7.out.setCell (show w.heap.size ≤ w1.heap.size by omega) _⟩
          · rw [e1]; exact HG7.out.set 1 _
          · show World.ownsRow _ _ _ _ _ _ _
            rw [e1]
            exact own_same HO7.out (fun g hg => Below.heap_setCell _ _ _ _ (fun e => HN7.out (by rw [hg, e])))
        case measure => first | (simp [intOf]; done) | (simp [intOf]; omega)
      · obtain rfl : k = T := by omega
        have hH := HH.out
        have m0 := hH.cell 0
        have m1 := hH.cell 1
        have f0 := hH.free 0
        have f1 := hH.free 1
        have qh := hH.lt
        go_wp2
        refine post_cell_tmp ((HH.out.set 0 _).set 1 _) rfl rfl rfl rfl Try.underlying24 (by kernel_rfl) ?_
        have hc := own_caps HO.out
        have hne : ∀ g, (Value.slice X (k * n) d).ownBlock = some g → g ≠ w.heap.size + 1 := fun g hg e => HH.out.ne_own HO.out (by decide) (by rw [hg, e])
        have hO := own_same (w' := (wo.setCell ⟨w.heap.size + 1, 0, none⟩ (.int .i64 p)).setCell ⟨w.heap.size + 1, 1, none⟩ (.slice X (k * n) d)) HO.out (fun g hg => (Below.heap_setCell _ _ _ _ (hne g hg)).trans (Below.heap_setCell _ _ _ _ (hne g hg)))
        exact ⟨X, k * n, d, rfl, own_rdW hO, HLR.out.trans HTe.out.symm, hc.1, hc.2, ((HB.out.setCell (by simp) _).setCell (by simp) _)⟩
end Go.Proofs.Ytdimfbmbomgiaaa
