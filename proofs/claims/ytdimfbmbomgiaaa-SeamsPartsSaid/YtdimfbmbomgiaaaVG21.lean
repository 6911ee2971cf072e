/-
  Walk of the law SeamsParts.
-/
import Derived.Test.YtdimfbmbomgiaaaVG20
namespace Go.Proofs.Ytdimfbmbomgiaaa
open Go.RowKit
theorem eql_arr (xs : List Int) (hl : xs.length = 49) (w : World) : (binOp .eql 60 (.agg (xs.map vInt).toArray) (.agg (xs.map vInt).toArray)).run Try.prog w = .ok (.bool true) w := by
  obtain ⟨i, hi, hz, hs, hb⟩ := info_parts infoInt
  have hsz : ∀ w, (sizeOf 3).run Try.prog w = .ok 1 w := fun w => by simp [sizeOf, typeInfo, hi, hs]
  have a3 := Try.isAgg3
  rw [run_eql_struct, run_equalIn_array w 9999 49 1 60 3 _ _ Try.underlying60 (hsz w)]
  rw [run_eqElems w 9999 1 3 _ (fun j hj => ?_) _ (fun j hj => ?_)]
  · rfl
  · have hj' : j < xs.length := by simpa using hj
    have e : (xs.map vInt).toArray[j]! = vInt xs[j] := by
      rw [getElem!_pos (xs.map vInt).toArray j hj]; simp
    rw [e]
    refine ⟨?_, ?_⟩
    · unfold part
      simp [Sem.run_bind, a3, Result.andThen, hj']
    · rw [run_equalIn_int w 9998 3 .i64 .i64 _ _ Try.underlying3]; simp
  · have := List.mem_range'.1 hj
    obtain ⟨m, h1, h2⟩ := this
    simp [hl]; omega
def wantL (k : Nat) (ls : List (List Nat)) : List Int := (List.range 49).map (fun m => ((Cyc.wantTo k ls m : Nat) : Int))
def gotL (ls : List (List Nat)) : List Int := (List.range 49).map (fun m => ((Cyc.gotTo ls m : Nat) : Int))
theorem wantL_len (k : Nat) (ls : List (List Nat)) : (wantL k ls).length = 49 := by simp [wantL]
theorem gotL_len (ls : List (List Nat)) : (gotL ls).length = 49 := by simp [gotL]
theorem wantL_get (k : Nat) (ls : List (List Nat)) {m : Nat} (h : m < 49) : (wantL k ls)[m]? = some ((Cyc.wantTo k ls m : Nat) : Int) := by simp [wantL, h]
theorem gotL_get (ls : List (List Nat)) {m : Nat} (h : m < 49) : (gotL ls)[m]? = some ((Cyc.gotTo ls m : Nat) : Int) := by simp [gotL, h]
theorem wantTo_app (k : Nat) (ls : List (List Nat)) (l : List Nat) (m : Nat) : Cyc.wantTo k (ls ++ [l]) m = Cyc.wantTo k ls m + if l.length / Nat.gcd l.length k = m then Nat.gcd l.length k else 0 := by
  unfold Cyc.wantTo; simp
theorem gotTo_app (ls : List (List Nat)) (l : List Nat) (m : Nat) : Cyc.gotTo (ls ++ [l]) m = Cyc.gotTo ls m + if l.length = m then 1 else 0 := by
  unfold Cyc.gotTo; simp
theorem wantL_set (k : Nat) (ls : List (List Nat)) (l : List Nat) (h : l.length / Nat.gcd l.length k < 49) : (wantL k ls).set (l.length / Nat.gcd l.length k) (((Cyc.wantTo k ls (l.length / Nat.gcd l.length k) : Nat) : Int) + ((Nat.gcd l.length k : Nat) : Int)) = wantL k (ls ++ [l]) := by
  apply List.ext_getElem?
  intro i
  rw [List.getElem?_set, wantL_len]
  by_cases hi : i < 49
  · rw [wantL_get _ _ hi, wantL_get _ _ hi, wantTo_app]
    by_cases e : l.length / Nat.gcd l.length k = i
    · subst e; rw [if_pos rfl, if_pos hi, if_pos rfl]; simp
    · rw [if_neg e, if_neg e]; rfl
  · have h1 : (wantL k (ls ++ [l]))[i]? = none := List.getElem?_eq_none (by rw [wantL_len]; omega)
    have h2 : (wantL k ls)[i]? = none := List.getElem?_eq_none (by rw [wantL_len]; omega)
    rw [h1, h2]
    split
    · exact absurd h (by omega)
    · rfl
theorem gotL_set (ls : List (List Nat)) (l : List Nat) (h : l.length < 49) : (gotL ls).set l.length (((Cyc.gotTo ls l.length : Nat) : Int) + 1) = gotL (ls ++ [l]) := by
  apply List.ext_getElem?
  intro i
  rw [List.getElem?_set, gotL_len]
  by_cases hi : i < 49
  · rw [gotL_get _ hi, gotL_get _ hi, gotTo_app]
    by_cases e : l.length = i
    · subst e; rw [if_pos rfl, if_pos hi, if_pos rfl]; simp
    · rw [if_neg e, if_neg e]; rfl
  · have h1 : (gotL (ls ++ [l]))[i]? = none := List.getElem?_eq_none (by rw [gotL_len]; omega)
    have h2 : (gotL ls)[i]? = none := List.getElem?_eq_none (by rw [gotL_len]; omega)
    rw [h1, h2]
    split
    · exact absurd h (by omega)
    · rfl
theorem wantL_zero (k : Nat) : wantL k [] = List.replicate 49 0 := by unfold wantL Cyc.wantTo; simp [List.map_const']
theorem gotL_zero : gotL [] = List.replicate 49 0 := by unfold gotL Cyc.gotTo; simp [List.map_const']
theorem gcd_le_len {n k : Nat} (hn : 0 < n) : Nat.gcd n k ≤ n := Nat.gcd_le_left _ hn
theorem wantTo_le (k : Nat) : ∀ (ls : List (List Nat)) (m : Nat), (∀ l ∈ ls, 0 < l.length) → Cyc.wantTo k ls m ≤ (ls.map List.length).sum
  | [], _, _ => by simp [Cyc.wantTo]
  | l :: ls, m, h => by
    have ih := wantTo_le k ls m (fun x hx => h x (by simp [hx]))
    have hl := h l (by simp)
    have hg := gcd_le_len (k := k) hl
    unfold Cyc.wantTo at ih ⊢
    simp only [List.map_cons, List.sum_cons]
    split <;> omega
theorem gotTo_le : ∀ (ls : List (List Nat)) (m : Nat), Cyc.gotTo ls m ≤ ls.length
  | [], _ => by simp [Cyc.gotTo]
  | l :: ls, m => by
    have ih := gotTo_le ls m
    unfold Cyc.gotTo at ih ⊢
    simp only [List.map_cons, List.sum_cons, List.length_cons]
    split <;> omega
theorem loops_len_le {ls : List (List Nat)} (h : ∀ l ∈ ls, 0 < l.length ∧ l.length ≤ 48) (hs : (ls.map List.length).sum ≤ 48) : ls.length ≤ 48 := by
  have h3 : ∀ (ls : List (List Nat)), (∀ l ∈ ls, 0 < l.length ∧ l.length ≤ 48) → ls.length ≤ (ls.map List.length).sum := fun ls => by
    induction ls with
    | nil => intro _; simp
    | cons x ls ih =>
      intro h
      have := ih (fun l hl => h l (by simp [hl]))
      have := h x (by simp)
      simp only [List.length_cons, List.map_cons, List.sum_cons]; omega
  exact Nat.le_trans (h3 ls h) hs
/-- the two tables are equal -/
theorem tables_eq {nx : Nat → Nat} {T : Nat} (P : Cyc.Perm nx T) (k : Nat) : wantL k (Cyc.loops nx T) = gotL (Cyc.loops (Cyc.it nx k) T) := by
  unfold wantL gotL
  apply List.map_congr_left
  intro m _
  rcases Nat.eq_zero_or_pos m with h | h
  · subst h
    have h1 : ∀ (ls : List (List Nat)), (∀ l ∈ ls, 0 < l.length) → Cyc.wantTo k ls 0 = 0 ∧ Cyc.gotTo ls 0 = 0 := fun ls => by
      induction ls with
      | nil => intro _; exact ⟨rfl, rfl⟩
      | cons l ls ih =>
        intro h
        obtain ⟨i1, i2⟩ := ih (fun x hx => h x (by simp [hx]))
        have hl := h l (by simp)
        have hg : 0 < l.length / Nat.gcd l.length k := Nat.div_pos (gcd_le_len hl) (Nat.gcd_pos_of_pos_left _ hl)
        unfold Cyc.wantTo Cyc.gotTo at *
        simp only [List.map_cons, List.sum_cons]
        rw [i1, i2, if_neg (by omega), if_neg (by omega)]
        exact ⟨rfl, rfl⟩
    rw [(h1 _ (Cyc.loops_pos P)).1, (h1 _ (Cyc.loops_pos (Cyc.perm_it P k))).2]
  · rw [Cyc.want_got P k m h]
attribute [local go_sem 10000] eql_arr
theorem loops_rep {p : Int} {ws : List Wk} (hok : SOk p ws) {k : Nat} (hk : k * ws.length ≤ 400) : Cyc.loops (nxS (repW ws k) (2 * p).toNat 0) (2 * p).toNat = Cyc.loops (Cyc.it (nxS ws (2 * p).toNat 0) k) (2 * p).toNat :=
  loops_congr (fun _ ht => nxS_rep hok hk ht) (fun t ht => (nxS_perm (repW_ok hok hk) 0).lt t ht)
set_option maxRecDepth 100000 in
set_option maxHeartbeats 4000000 in
theorem partsOf (p : Int) (A : Option Addr) (n c : Nat) (b : Int) (ws : List Wk) (w : World) (hn : n ≤ 9223372036854775807) (hw : RdW w w.heap.size A ws) (hl : ws.length = n) (hs : ∀ x ∈ ws, x.word.size ≤ 9223372036854775807) (hb : 0 ≤ b ∧ b ≤ 255) :
    Calls Try.prog 8 #[.agg #[.int .i64 p, .slice A n c], .int .u8 b] w fun e w' => e = .returned (.bool true) ∧ Below w.heap.size w w' := by
  have CF := Lib.hid (fun (W : World) (hb : Below w.heap.size w W) => far24 p A n c ws W hn (hw.up hb) hl hs)
  have CK := Lib.hid (fun (W : World) (hb : Below w.heap.size w W) => check04 p A n c ws W hn (hw.up hb) hl hs)
  have K0 : Has (w.alloc (.cells #[.int .i64 p, .slice A n c] 24)) w.heap.size 24 [.int .i64 p, .slice A n c] := Has.new rfl
  by_cases h40 : 40 < n
  · have d40 : decide ((40 : Int) < (n : Int)) = true := decide_eq_true (by omega)
    clear hw hl hs CK
    go_enter Try.func8, Try.ntmps8
    go_wp2_with fail
    refine (CF.out _ (by go_grown)).mono ?_
    rintro e w1 ⟨⟨b, rfl⟩, hb1⟩
    have B1 : Below w.heap.size w w1 := bvia (show Below w.heap.size w _ by go_grown) hb1
    have HB := K0.below hb1 K0.lt
    have a1 : w1.cell? ⟨w.heap.size, 1, none⟩ = some (.slice A n c) := HB.cell 1
    have q := HB.lt
    clear K0 hb1 CF HB
    cases b <;> (go_wp2_with fail; refine (shown10 _).mono ?_; rintro e w2 ⟨rfl, hb2⟩; go_wp2; go_ret; exact ⟨rfl, bvia B1 hb2⟩)
  have d40 : decide ((40 : Int) < (n : Int)) = false := decide_eq_false (by omega)
  by_cases hE : schk p ws = 0
  case neg =>
    have hd' : (schk p ws != 0) = true := by simpa using hE
    generalize schk p ws = er at *
    clear hw hl hs hE
    go_enter Try.func8, Try.ntmps8
    go_wp2_with fail
    refine (CF.out _ (by go_grown)).mono ?_
    rintro e w1 ⟨⟨b, rfl⟩, hb1⟩
    have B1 : Below w.heap.size w w1 := bvia (show Below w.heap.size w _ by go_grown) hb1
    have HB := Lib.hid (K0.below hb1 K0.lt)
    clear K0 hb1 CF
    cases b with
    | true =>
      go_wp2_with fail
      refine (shown10 _).mono ?_
      rintro e w2 ⟨rfl, hb2⟩
      go_wp2
      go_ret
      exact ⟨rfl, bvia B1 hb2⟩
    | false =>
      have a0 : w1.cell? ⟨w.heap.size, 0, none⟩ = some (.int .i64 p) := HB.out.cell 0
      have a1 : w1.cell? ⟨w.heap.size, 1, none⟩ = some (.slice A n c) := HB.out.cell 1
      have q := HB.out.lt
      go_wp2_with fail
      refine (CK.out _ B1).mono ?_
      rintro e w2 ⟨rfl, hb2⟩
      have B2 := bvia B1 hb2
      clear a0 a1 q hb2 B1 HB
      go_wp2_with fail
      refine (shown10 _).mono ?_
      rintro e w3 ⟨rfl, hb3⟩
      go_wp2
      go_ret
      exact ⟨rfl, bvia B2 hb3⟩
  have hok := schk_zero hE
  obtain ⟨P, rfl⟩ := Int.eq_ofNat_of_zero_le (show 0 ≤ p by have := hok.ge; omega)
  have hP : 2 ≤ P ∧ P ≤ 24 := by have := hok.ge; have := hok.le; omega
  obtain ⟨B, rfl⟩ := Int.eq_ofNat_of_zero_le hb.1
  obtain ⟨k, hk⟩ : ∃ k, k = 1 + B % 10 := ⟨_, rfl⟩
  have hk1 : 1 ≤ k ∧ k ≤ 10 := by omega
  have ek : (1 : Int) + (B : Int) % 10 = (k : Int) := by rw [hk]; simp
  have hkn : k * n ≤ 400 := by have := Nat.mul_le_mul hk1.2 (show n ≤ 40 by omega); omega
  have hre : repE (P : Int) ws (k : Int) = 0 := by
    unfold repE; rw [if_neg (by rw [hE]; simp), if_neg (by omega), if_neg (by rw [hl, ← Int.natCast_mul]; omega)]
  have e1 : repP (P : Int) ws (k : Int) = (P : Int) := by unfold repP; rw [if_pos hre]
  have e2 : repL (P : Int) ws (k : Int) = repW ws k := by unfold repL; rw [if_pos hre]; simp
  have CT := Lib.hid (fun (W : World) (hb : Below w.heap.size w W) => repeat11 (P : Int) A n c (k : Int) ws W hn (hw.up hb) hl hs)
  rw [hre, e1, e2] at CT
  have hor := repW_ok hok (k := k) (by rw [hl]; exact hkn)
  have CL := Lib.hid (fun (W : World) (hb : Below w.heap.size w W) => loops16 (P : Int) A n c 0 ws W hn (hw.up hb) hl hs)
  have CM := Lib.hid (fun (A' : Option Addr) (n' c' : Nat) (W : World) (hn' : n' ≤ 9223372036854775807) (hr : RdW W W.heap.size A' (repW ws k)) (hl' : (repW ws k).length = n') => loops16 (P : Int) A' n' c' 0 (repW ws k) W hn' hr hl' (fun x hx => Nat.le_trans (hor.short x hx) (by omega)))
  obtain ⟨ls, hls⟩ : ∃ ls, ls = Cyc.loops (nxS ws (2 * (P : Int)).toNat 0) (2 * (P : Int)).toNat := ⟨_, rfl⟩
  obtain ⟨ms, hms⟩ : ∃ ms, ms = Cyc.loops (Cyc.it (nxS ws (2 * (P : Int)).toNat 0) k) (2 * (P : Int)).toNat := ⟨_, rfl⟩
  have el : loopsR (P : Int) ws 0 = ls := by unfold loopsR; rw [if_pos (per_zero hok), hls]; rfl
  have em : loopsR (P : Int) (repW ws k) 0 = ms := by unfold loopsR; rw [if_pos (per_zero hor), hms]; unfold loopsS; exact loops_rep hok (by rw [hl]; exact hkn)
  rw [el, per_zero hok] at CL
  simp only [em, per_zero hor] at CM
  have hpm := nxS_perm hok 0
  have h48 : (2 * (P : Int)).toNat ≤ 48 := by omega
  have HTB : Hid (wantL k ls = gotL ms) := by show _ = _; rw [hls, hms]; exact tables_eq hpm k
  have HLP : Hid (∀ l ∈ ls, 0 < l.length ∧ l.length ≤ 48) := fun l hl => by rw [hls] at hl; exact ⟨Cyc.loops_pos hpm l hl, loop_le hpm h48 l hl⟩
  have HMP : Hid (∀ l ∈ ms, 0 < l.length ∧ l.length ≤ 48) := fun l hl => by rw [hms] at hl; exact ⟨Cyc.loops_pos (Cyc.perm_it hpm k) l hl, loop_le (Cyc.perm_it hpm k) h48 l hl⟩
  have HLS : Hid ((ls.map List.length).sum ≤ 48) := by show _ ≤ _; rw [hls, Cyc.loops_total hpm]; exact h48
  have HML : Hid (ms.length ≤ 48) := by show _ ≤ _; rw [hms]; exact loops_le (Cyc.perm_it hpm k) h48
  rw [hE] at CK
  have i0 : (B : Int).tmod 10 = (B : Int) % 10 := Int.tmod_eq_emod_of_nonneg (by omega)
  have i1 : IntKind.i64.wrap (1 + (B : Int) % 10) = (k : Int) := by rw [ek]; exact IntWalk.i64_in _ (by omega)
  clear hw hl hs hE hok hor hre e1 e2 el em hls hms hpm h48 hk ek hkn
  go_enter Try.func8, Try.ntmps8
  go_wp2_with fail
  refine (CF.out _ (by go_grown)).mono ?_
  rintro e0 w1 ⟨⟨b, rfl⟩, hb1⟩
  have B1 := Lib.hid (bvia (show Below w.heap.size w _ by go_grown) hb1)
  have HB := Lib.hid (K0.below hb1 K0.lt)
  clear K0 hb1 CF
  cases b with
  | true =>
    go_wp2_with fail
    refine (shown10 _).mono ?_
    rintro e w2 ⟨rfl, hb2⟩
    go_wp2
    go_ret
    exact ⟨rfl, bvia B1.out hb2⟩
  | false =>
    have a0 : w1.cell? ⟨w.heap.size, 0, none⟩ = some (.int .i64 (P : Int)) := HB.out.cell 0
    have a1 : w1.cell? ⟨w.heap.size, 1, none⟩ = some (.slice A n c) := HB.out.cell 1
    have q := HB.out.lt
    go_wp2_with fail
    refine (CK.out _ B1.out).mono ?_
    rintro e2 w2 ⟨rfl, hb2⟩
    have B2 := Lib.hid (bvia B1.out hb2)
    have HB2 := Lib.hid (HB.out.below hb2 HB.out.lt)
    clear a0 a1 q hb2 B1 HB CK
    have a0 : w2.cell? ⟨w.heap.size, 0, none⟩ = some (.int .i64 (P : Int)) := HB2.out.cell 0
    have a1 : w2.cell? ⟨w.heap.size, 1, none⟩ = some (.slice A n c) := HB2.out.cell 1
    have q := HB2.out.lt
    go_wp2_with fail
    refine (CT.out _ B2.out).mono ?_
    rintro e4 w4 ⟨A4, n4, c4, rfl, r4, l4, hn4', hc4, hb4⟩
    have B4 := Lib.hid (bvia B2.out hb4)
    have HB4 := Lib.hid (HB2.out.below hb4 HB2.out.lt)
    obtain ⟨v4, hv4⟩ : ∃ v4, v4 = w4.alloc (.cells #[.int .i64 (P : Int), .slice A4 n4 c4] 24) := ⟨_, rfl⟩
    have HX : Hid (Has v4 w4.heap.size 24 [.int .i64 (P : Int), .slice A4 n4 c4]) := by show Has _ _ _ _; rw [hv4]; exact Has.new rfl
    have HA : Hid (Below w4.heap.size w4 v4) := by show Below _ _ _; rw [hv4]; go_grown
    have R4 := Lib.hid (r4.up HA.out)
    have B5 := Lib.hid (bvia B4.out HA.out)
    have HB5 := Lib.hid (HB4.out.below HA.out HB4.out.lt)
    have L4 := Lib.hid l4
    have a0 : v4.cell? ⟨w.heap.size, 0, none⟩ = some (.int .i64 (P : Int)) := HB5.out.cell 0
    have a1 : v4.cell? ⟨w.heap.size, 1, none⟩ = some (.slice A n c) := HB5.out.cell 1
    have q := HB5.out.lt
    have q4 := HB4.out.lt
    clear hb4 r4 l4 HB4 B4 HA HB2 B2
    go_upto_region 5 with (fail)
    rw [← hv4]
    clear hv4
    go_wp2_with fail
    refine (CL.out _ B5.out).mono ?_
    rintro e5 w5 ⟨A5, n5, c5, rfl, r5, l5, hn5, hc5, hb5⟩
    have B6 := Lib.hid (bvia B5.out hb5)
    have X6 := Lib.hid (HX.out.below hb5 HX.out.lt)
    have R5 := Lib.hid (R4.out.up hb5)
    have RL := Lib.hid r5
    have x0 : w5.cell? ⟨w4.heap.size, 0, none⟩ = some (.int .i64 (P : Int)) := X6.out.cell 0
    have x1 : w5.cell? ⟨w4.heap.size, 1, none⟩ = some (.slice A4 n4 c4) := X6.out.cell 1
    have xq := X6.out.lt
    clear a0 a1 q hb5 r5 HB5 B5 R4 HX
    go_wp2_with fail
    refine (CM.out A4 n4 c4 w5 (Nat.le_trans hn4' hc4) R5.out L4.out).mono ?_
    rintro e6 w6 ⟨A6, n6, c6, rfl, r6, l6, hn6, hc6, hb6⟩
    have B7 := Lib.hid (bvia B6.out hb6)
    have RL6 := Lib.hid (RL.out.up hb6)
    have RM6 := Lib.hid r6
    have L5 := Lib.hid l5; have L6 := Lib.hid l6
    clear x0 x1 xq hb6 r6 B6 X6 R5 RL l5 l6
    have KW : Has ((w6.alloc (.cells ((wantL k []).map vInt).toArray 60)).alloc (.cells ((gotL []).map vInt).toArray 60)) w6.heap.size 60 ((wantL k []).map vInt) := (Has.new rfl).alloc _
    have KG : Has ((w6.alloc (.cells ((wantL k []).map vInt).toArray 60)).alloc (.cells ((gotL []).map vInt).toArray 60)) (w6.heap.size + 1) 60 ((gotL []).map vInt) := has_new (by simp)
    have hs5 : n5 ≤ 48 := by have := loops_len_le HLP.out HLS.out; rw [L5.out] at this; exact this
    have hs6 : n6 ≤ 48 := by have := HML.out; rw [L6.out] at this; exact this
    go_wp2
    go_loopw [14] (fun v wr => ∃ j : Nat, j ≤ n5 ∧ v = .int .i64 (j : Int) ∧ Hid (Has wr w6.heap.size 60 ((wantL k (ls.take j)).map vInt)) ∧ Hid (Has wr (w6.heap.size + 1) 60 ((gotL []).map vInt)) ∧ Hid (Below w6.heap.size w6 wr)) (fun v _ => n5 - (intOf v).toNat)
    case atStart =>
      refine ⟨0, Nat.zero_le _, rfl, KW, KG, ?_⟩
      show Below _ _ _
      go_grown
    case round =>
      clear KW KG
      obtain ⟨j, hj, rfl, HW, HG, HBB⟩ := hrel
      obtain ⟨wo, rfl⟩ : ∃ wo : World, wo = wr := ⟨_, rfl⟩
      by_cases hlt : j < n5
      · have jk : (j : Int) < (n5 : Int) := by omega
        obtain ⟨l, hlj⟩ := get_of_lt (l := ls) (k := j) (by rw [L5.out]; exact hlt)
        obtain ⟨ba, o, A', c', e7, hba, c0, _⟩ := (RL6.out.up HBB.out) j l hlj
        subst e7
        obtain ⟨lp, l48⟩ := HLP.out l (mem_of_get hlj)
        have htk : ls.take (j + 1) = ls.take j ++ [l] := by rw [List.take_add_one, hlj]; rfl
        have HTK := Lib.hid htk
        have hg := gcd_le_len (k := k) lp
        have hgp := Nat.gcd_pos_of_pos_left k lp
        have hq48 : l.length / Nat.gcd l.length k < 49 := Nat.lt_of_le_of_lt (Nat.div_le_self _ _) (by omega)
        have hwl : Cyc.wantTo k (ls.take j) (l.length / Nat.gcd l.length k) ≤ 48 := by
          refine Nat.le_trans (wantTo_le k _ _ (fun x hx => (HLP.out x (List.mem_of_mem_take hx)).1)) (Nat.le_trans ?_ HLS.out)
          rw [List.map_take]; exact Cyc.sum_take_le _ _
        have HST := Lib.hid (wantL_set k (ls.take j) l hq48)
        have w0 : wo.cell? ⟨w6.heap.size, l.length / Nat.gcd l.length k, none⟩ = some (vInt ((Cyc.wantTo k (ls.take j) (l.length / Nat.gcd l.length k) : Nat) : Int)) := (HW.out.cell _).trans (by rw [List.getElem?_map, wantL_get _ _ hq48]; rfl)
        have CG := Lib.hid (fun (W : World) => gcd28 l.length k W (by omega) (by omega))
        have e9 : (l.length : Int) / ((Nat.gcd l.length k : Nat) : Int) = ((l.length / Nat.gcd l.length k : Nat) : Int) := by rw [Int.natCast_ediv]
        have i9 : ¬ Nat.gcd l.length k = 0 := by omega
        have HE9 := Lib.hid e9
        clear hlj htk
        generalize hN : l.length = N at *
        generalize hD : Nat.gcd N k = D at *
        generalize hQ : N / D = Q at *
        generalize Cyc.wantTo k (ls.take j) Q = V at *
        clear hN hD hQ
        have f0 := HW.out.free Q
        have qw := HW.out.lt
        have q49 : (Q : Int) < 49 := by omega
        have d1 : decide ((N : Int) < 1) = false := decide_eq_false (by omega)
        have d2 : decide ((48 : Int) < (N : Int)) = false := decide_eq_false (by omega)
        have i10 : IntKind.i64.wrap ((V : Int) + (D : Int)) = (V : Int) + (D : Int) := IntWalk.i64_in _ (by omega)
        have i11 : IntKind.i64.wrap (Q : Int) = (Q : Int) := IntWalk.i64_in _ (by omega)
        go_wp2_with fail
        refine (CG.out _).mono ?_
        rintro e10 w7 ⟨rfl, hb7⟩
        have W7 := Lib.hid (HW.out.below hb7 HW.out.lt)
        have G7 := Lib.hid (HG.out.below hb7 HG.out.lt)
        have B77 := Lib.hid (bvia HBB.out hb7)
        have w0 : w7.cell? ⟨w6.heap.size, Q, none⟩ = some (vInt (V : Int)) := (hb7.cell (p := ⟨w6.heap.size, Q, none⟩) qw).trans w0
        have f0 := W7.out.free Q
        have qw := W7.out.lt
        have i12 : (N : Int) / (D : Int) = (Q : Int) := HE9.out
        have i13 : Q < 49 := hq48
        clear hb7 c0 CG HG HW HBB
        go_wp2
        go_region
        go_wp2
        go_roundw
        case rel =>
          refine ⟨j + 1, by omega, rfl, ?_, ?_, ?_⟩
          · show Has _ _ _ _
            rw [HTK.out, ← HST.out, List.map_set]
            exact W7.out.set Q (vInt ((V : Int) + (D : Int)))
          · show Has _ _ _ _
            exact G7.out.far (by omega) _ _
          · show Below _ _ _
            exact (B77.out.setCell (p := ⟨w6.heap.size, Q, none⟩) (Nat.le_refl _) _).drew
        case measure => first | (simp [intOf]; done) | (simp [intOf]; omega)
      · obtain rfl : j = n5 := by omega
        have etk : ls.take j = ls := List.take_of_length_le (by rw [L5.out]; exact Nat.le_refl _)
        rw [etk] at HW
        have HK := HW
        clear HW hlt RL6 HLP HLS L5 etk hs5 hj hn5 hc5
        have jk : ¬ (j : Int) < (j : Int) := by omega
        go_wp2
        go_loopw [17] (fun v wr => ∃ i : Nat, i ≤ n6 ∧ v = .int .i64 (i : Int) ∧ Hid (Has wr w6.heap.size 60 ((wantL k ls).map vInt)) ∧ Hid (Has wr (w6.heap.size + 1) 60 ((gotL (ms.take i)).map vInt)) ∧ Hid (Below w6.heap.size w6 wr)) (fun v _ => n6 - (intOf v).toNat)
        case atStart => exact ⟨0, Nat.zero_le _, rfl, HK, HG, HBB⟩
        case round =>
          clear HK HG HBB
          obtain ⟨i, hi, rfl, HW, HG, HBB⟩ := hrel
          obtain ⟨wp, rfl⟩ : ∃ wp : World, wp = wr := ⟨_, rfl⟩
          by_cases hlt : i < n6
          · have jk : (i : Int) < (n6 : Int) := by omega
            obtain ⟨l, hlj⟩ := get_of_lt (l := ms) (k := i) (by rw [L6.out]; exact hlt)
            obtain ⟨ba, o, A', c', e7, hba, c0, _⟩ := (RM6.out.up HBB.out) i l hlj
            subst e7
            obtain ⟨lp, l48⟩ := HMP.out l (mem_of_get hlj)
            have htk : ms.take (i + 1) = ms.take i ++ [l] := by rw [List.take_add_one, hlj]; rfl
            have HTK := Lib.hid htk
            have hvl : Cyc.gotTo (ms.take i) l.length ≤ 48 := by
              refine Nat.le_trans (gotTo_le _ _) ?_
              rw [List.length_take]; have := HML.out; omega
            have HST := Lib.hid (gotL_set (ms.take i) l (by omega))
            have w0 : wp.cell? ⟨w6.heap.size + 1, l.length, none⟩ = some (vInt ((Cyc.gotTo (ms.take i) l.length : Nat) : Int)) := (HG.out.cell _).trans (by rw [List.getElem?_map, gotL_get _ (show l.length < 49 by omega)]; rfl)
            clear hlj htk
            generalize l.length = N at *
            generalize Cyc.gotTo (ms.take i) N = V at *
            have f0 := HG.out.free N
            have qw := HG.out.lt
            have q49 : (N : Int) < 49 := by omega
            have d1 : decide ((N : Int) < 1) = false := decide_eq_false (by omega)
            have d2 : decide ((48 : Int) < (N : Int)) = false := decide_eq_false (by omega)
            have i10 : IntKind.i64.wrap ((V : Int) + 1) = (V : Int) + 1 := IntWalk.i64_in _ (by omega)
            have i11 : IntKind.i64.wrap (N : Int) = (N : Int) := IntWalk.i64_in _ (by omega)
            go_wp2
            go_roundw
            case rel =>
              refine ⟨i + 1, by omega, rfl, ?_, ?_, ?_⟩
              · show Has _ _ _ _
                exact HW.out.far (by omega) _ _
              · show Has _ _ _ _
                rw [HTK.out, ← HST.out, List.map_set]
                exact HG.out.set N (vInt ((V : Int) + 1))
              · show Below _ _ _
                exact HBB.out.setCell (p := ⟨w6.heap.size + 1, N, none⟩) (Nat.le_succ _) _
            case measure => first | (simp [intOf]; done) | (simp [intOf]; omega)
          · obtain rfl : i = n6 := by omega
            have etk : ms.take i = ms := List.take_of_length_le (by rw [L6.out]; exact Nat.le_refl _)
            rw [etk, ← HTB.out] at HG
            have jk : ¬ (i : Int) < (i : Int) := by omega
            have hz : some ((wantL k ls).map vInt).toArray.size = some 49 := by simp [wantL_len]
            have hy : (Try.prog.info? 60).map (·.size) = some ((wantL k ls).map vInt).toArray.size := by rw [hz]; kernel_rfl
            have hwl := wantL_len k ls
            have HW' := HW.out
            have HG' := HG.out
            unfold Has at HW' HG'
            have B8 := bvia B7.out HBB.out
            clear HW HG HBB hz RM6 HMP HML L6 etk hs6 hi hn6 hc6 hlt HTB
            go_wp2_with (first | (refine wpList_load_row rfl 60 _ rfl w6.heap.size rfl 60 _ (0, 0) _ HW' Try.underlying60 rfl hy ?_) | (refine wpList_load_row rfl 60 _ rfl (w6.heap.size + 1) rfl 60 _ (0, 0) _ HG' Try.underlying60 rfl hy ?_))
            refine (shown10 _).mono ?_
            rintro e w9 ⟨rfl, hb9⟩
            go_wp2
            go_ret
            exact ⟨rfl, bvia B8 hb9⟩
end Go.Proofs.Ytdimfbmbomgiaaa
