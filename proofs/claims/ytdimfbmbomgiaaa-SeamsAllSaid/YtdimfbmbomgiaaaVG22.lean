/-
  Plain words of the law SeamsAll: the table of the ends, what the loops have seen, the next place.
-/
import Derived.Test.YtdimfbmbomgiaaaVG17
import Derived.Test.YtdimfbmbomgiaaaVG19
import Derived.BigQuiet
namespace Go.Proofs.Ytdimfbmbomgiaaa
open Go.RowKit
def atS (ws : List Wk) (T j : Nat) : List Int := (List.range T).map (fun t => if inS ws t < j then (inS ws t : Int) else 0)
theorem atS_len (ws : List Wk) (T j : Nat) : (atS ws T j).length = T := by simp [atS]
theorem atS_zero (ws : List Wk) (T : Nat) : atS ws T 0 = List.replicate T 0 := by simp [atS, List.map_const']
theorem atS_get (ws : List Wk) {T j t : Nat} (ht : t < T) : (atS ws T j)[t]? = some (if inS ws t < j then (inS ws t : Int) else 0) := by simp [atS, ht]
theorem atS_set (ws : List Wk) (T : Nat) {j : Nat} : (atS ws T j).set (plS ws j) (j : Int) = atS ws T (j + 1) := by
  apply List.ext_getElem?
  intro i
  rw [List.getElem?_set, atS_len]
  by_cases hi : i < T
  · rw [atS_get ws hi, atS_get ws hi]
    by_cases e : plS ws j = i
    · subst e
      rw [if_pos rfl, if_pos hi, inS_plS, if_pos (by omega)]
    · rw [if_neg e]
      have hne : inS ws i ≠ j := fun e2 => e (by rw [← e2, plS_inS])
      by_cases h1 : inS ws i < j
      · rw [if_pos h1, if_pos (by omega)]
      · rw [if_neg h1, if_neg (by omega)]
  · have h1 : (atS ws T (j + 1))[i]? = none := List.getElem?_eq_none (by rw [atS_len]; omega)
    have h2 : (atS ws T j)[i]? = none := List.getElem?_eq_none (by rw [atS_len]; omega)
    rw [h1, h2]
    split
    · split
      · omega
      · rfl
    · rfl
theorem atS_all {p : Int} {ws : List Wk} (hok : SOk p ws) {t : Nat} (ht : t < (2 * p).toNat) : (atS ws (2 * p).toNat (2 * p).toNat)[t]? = some ((inS ws t : Nat) : Int) := by
  rw [atS_get ws ht, if_pos (inS_lt hok ht)]
/-- what is seen when i loops are read, and j numbers of the next one -/
def seenA (ls : List (List Nat)) (i j : Nat) (k : Nat) : Bool := decide (k ∈ (ls.take i).flatten) || decide (k ∈ (ls.getD i []).take j)
theorem seenA_zero (ls : List (List Nat)) : seenA ls 0 0 = fun _ => false := by funext k; simp [seenA]
theorem seenA_next {ls : List (List Nat)} {i : Nat} {l : List Nat} (h : ls[i]? = some l) : seenA ls i l.length = seenA ls (i + 1) 0 := by
  funext k
  have e : ls.getD i [] = l := by simp [List.getD, h]
  have e2 : ls.take (i + 1) = ls.take i ++ [l] := by rw [List.take_add_one, h]; rfl
  unfold seenA
  rw [e, e2, List.take_length]
  simp
theorem seenA_upd {ls : List (List Nat)} {i j k : Nat} {l : List Nat} (h : ls[i]? = some l) (hk : l[j]? = some k) : Cyc.upd (seenA ls i j) k = seenA ls i (j + 1) := by
  funext m
  have e : ls.getD i [] = l := by simp [List.getD, h]
  unfold seenA Cyc.upd
  rw [e, List.take_add_one, hk]
  by_cases hm : m = k
  · subst hm; simp
  · simp [hm]
theorem loop_nodup {nx : Nat → Nat} {T h : Nat} (P : Cyc.Perm nx T) {l : List Nat} (L : Cyc.Loop nx h l) (ht : h < T) {i j k : Nat} (hi : l[i]? = some k) (hj : l[j]? = some k) (hij : i < j) : False := by
  have li := lt_of_get hi
  have lj := lt_of_get hj
  rw [L.at_ i li] at hi
  rw [L.at_ j lj] at hj
  have e : Cyc.it nx i h = Cyc.it nx j h := by injection hi with a; injection hj with b; rw [a, b]
  rw [show j = i + (j - i) by omega, Cyc.it_add] at e
  exact L.least (j - i) (by omega) (by omega) (P.it_inj i _ _ (P.it_lt _ _ ht) ht e.symm)
theorem seenA_new {nx : Nat → Nat} {T : Nat} (P : Cyc.Perm nx T) {i j k : Nat} {l : List Nat} (h : (Cyc.loops nx T)[i]? = some l) (hk : l[j]? = some k) : seenA (Cyc.loops nx T) i j k = false := by
  have F := Cyc.loops_found P T (Nat.le_refl _)
  have e : (Cyc.loops nx T).getD i [] = l := by simp [List.getD, h]
  unfold seenA
  rw [e]
  have h1 : k ∉ ((Cyc.loops nx T).take i).flatten := fun hm => by
    obtain ⟨x, hx, hkx⟩ := List.mem_flatten.1 hm
    obtain ⟨a, ha, hxa⟩ := List.getElem_of_mem hx
    rw [List.length_take] at ha
    have hxa' : (Cyc.loops nx T)[a]? = some x := by rw [← hxa, List.getElem_take, List.getElem?_eq_getElem (by omega)]
    have := F.one a i x l k hxa' h hkx (mem_of_get hk)
    omega
  have h2 : k ∉ l.take j := fun hm => by
    obtain ⟨a, ha, hxa⟩ := List.getElem_of_mem hm
    rw [List.length_take] at ha
    have hxa' : l[a]? = some k := by rw [← hxa, List.getElem_take, List.getElem?_eq_getElem (by omega)]
    obtain ⟨h, _, ht, L, _⟩ := F.loop l (mem_of_get h)
    exact loop_nodup P L ht hxa' hk (by omega)
  simp [h1, h2]
theorem seenA_all {nx : Nat → Nat} {T : Nat} (P : Cyc.Perm nx T) {k : Nat} (hk : k < T) : seenA (Cyc.loops nx T) (Cyc.loops nx T).length 0 k = true := by
  obtain ⟨l, hl, hkl⟩ := Cyc.loop_of P hk
  unfold seenA
  rw [List.take_length]
  have : k ∈ (Cyc.loops nx T).flatten := List.mem_flatten.2 ⟨l, hl, hkl⟩
  simp [this]
theorem loop_facts {nx : Nat → Nat} {T : Nat} (P : Cyc.Perm nx T) {l : List Nat} (hl : l ∈ Cyc.loops nx T) {j k : Nat} (hk : l[j]? = some k) : k < T ∧ l.headD 0 ≤ k ∧ l[(j + 1) % l.length]? = some (nx k) := by
  obtain ⟨h, _, ht, L, hm⟩ := (Cyc.loops_found P T (Nat.le_refl _)).loop l hl
  have lj := lt_of_get hk
  refine ⟨L.lt P ht (mem_of_get hk), by rw [L.headD]; exact hm k (mem_of_get hk), ?_⟩
  rw [L.at_ j lj] at hk
  injection hk with hk
  rw [L.at_ _ (Nat.mod_lt _ L.pos), ← L.mod, Cyc.it_succ', hk]
theorem head_get {l : List Nat} (h : 0 < l.length) : l[0]? = some (l.headD 0) := by
  cases l with
  | nil => simp at h
  | cons a l => rfl
theorem loop_up {nx : Nat → Nat} {T : Nat} (P : Cyc.Perm nx T) {i : Nat} {x y : List Nat} (h : (Cyc.loops nx T)[i]? = some x) (h' : (Cyc.loops nx T)[i + 1]? = some y) : x.headD 0 < y.headD 0 := (Cyc.loops_found P T (Nat.le_refl _)).up i x y h h'
/-- some loop so far does not come back after m -/
def anyA (ls : List (List Nat)) (m k : Nat) : Bool := (ls.take k).any (fun l => m % l.length != 0)
theorem anyA_zero (ls : List (List Nat)) (m : Nat) : anyA ls m 0 = false := by simp [anyA]
theorem anyA_succ {ls : List (List Nat)} {k : Nat} {l : List Nat} (h : ls[k]? = some l) (m : Nat) : anyA ls m (k + 1) = (anyA ls m k || (m % l.length != 0)) := by
  unfold anyA; rw [List.take_add_one, h]; simp
theorem anyA_all {nx : Nat → Nat} {T d : Nat} (P : Cyc.Perm nx T) (hT : T ≤ 48) (hd : 2 ≤ d) (hdv : Cyc.per nx T % d = 0) : anyA (Cyc.loops nx T) (Cyc.per nx T / d) (Cyc.loops nx T).length = true := by
  obtain ⟨l, hl, h⟩ := Cyc.per_prime hd (Nat.dvd_of_mod_eq_zero hdv) (Cyc.per_bounds P hT).1
  unfold anyA
  rw [List.take_length, List.any_eq_true]
  exact ⟨l, hl, by simpa using h⟩
end Go.Proofs.Ytdimfbmbomgiaaa
/-
  Walk of the law SeamsAll.
-/
namespace Go.Proofs.Ytdimfbmbomgiaaa
open Go.RowKit
theorem nz_cast (x : Nat) : (x != 0) = (((x : Nat) : Int) != 0) := by
  by_cases h : x = 0
  · subst h; rfl
  · have h1 : (x != 0) = true := by simpa using h
    have h2 : (((x : Nat) : Int) != 0) = true := by simp; omega
    rw [h1, h2]
set_option maxRecDepth 100000 in
set_option maxHeartbeats 40000000 in
theorem allOf (p : Int) (A : Option Addr) (n c : Nat) (b : Int) (ws : List Wk) (w : World) (hn : n ≤ 9223372036854775807) (hw : RdW w w.heap.size A ws) (hl : ws.length = n) (hs : ∀ x ∈ ws, x.word.size ≤ 9223372036854775807) (hb : 0 ≤ b ∧ b ≤ 255) :
    Calls Try.prog 6 #[.agg #[.int .i64 p, .slice A n c], .int .u8 b] w fun e w' => e = .returned (.bool true) ∧ Below w.heap.size w w' := by
  have CF := Lib.hid (fun (W : World) (hb : Below w.heap.size w W) => far24 p A n c ws W hn (hw.up hb) hl hs)
  have CK := Lib.hid (fun (W : World) (hb : Below w.heap.size w W) => check04 p A n c ws W hn (hw.up hb) hl hs)
  have K0 : Has (w.alloc (.cells #[.int .i64 p, .slice A n c] 24)) w.heap.size 24 [.int .i64 p, .slice A n c] := Has.new rfl
  by_cases hE : schk p ws = 0
  case neg =>
    have hd' : (schk p ws != 0) = true := by simpa using hE
    generalize schk p ws = er at *
    clear hw hl hs hE
    go_enter Try.func6, Try.ntmps6
    go_wp2_with fail
    refine (CF.out _ (by go_grown)).mono ?_
    rintro e w1 ⟨⟨b, rfl⟩, hb1⟩
    have B1 : Below w.heap.size w w1 := bvia (show Below w.heap.size w _ by go_grown) hb1
    have HB := Lib.hid (K0.below hb1 K0.lt)
    clear K0 hb1 CF
    cases b with
    | true =>
      go_wp2_with fail
      refine (shown10 _).mono ?_
      rintro e w2 ⟨rfl, hb2⟩
      go_wp2
      go_ret
      exact ⟨rfl, bvia B1 hb2⟩
    | false =>
      have a0 : w1.cell? ⟨w.heap.size, 0, none⟩ = some (.int .i64 p) := HB.out.cell 0
      have a1 : w1.cell? ⟨w.heap.size, 1, none⟩ = some (.slice A n c) := HB.out.cell 1
      have q := HB.out.lt
      go_wp2_with fail
      refine (CK.out _ B1).mono ?_
      rintro e w2 ⟨rfl, hb2⟩
      have B2 := bvia B1 hb2
      clear a0 a1 q hb2 B1 HB
      go_wp2_with fail
      refine (shown10 _).mono ?_
      rintro e w3 ⟨rfl, hb3⟩
      go_wp2
      go_ret
      exact ⟨rfl, bvia B2 hb3⟩
  have hok := schk_zero hE
  have HOK := Lib.hid hok
  obtain ⟨P, rfl⟩ := Int.eq_ofNat_of_zero_le (show 0 ≤ p by have := hok.ge; omega)
  have hP : 2 ≤ P ∧ P ≤ 24 := by have := hok.ge; have := hok.le; omega
  obtain ⟨B, rfl⟩ := Int.eq_ofNat_of_zero_le hb.1
  obtain ⟨h, hh⟩ : ∃ h : Nat, h = B % P := ⟨_, rfl⟩
  have hlt : h < P := by rw [hh]; exact Nat.mod_lt _ (by omega)
  have eh : (B : Int) % (P : Int) = (h : Int) := by rw [hh]; simp
  have hse : seE (P : Int) ws (h : Int) = 0 := by
    unfold seE; rw [if_neg (by rw [hE]; simp), if_neg (by omega)]
  have CL := Lib.hid (fun (W : World) (hb : Below w.heap.size w W) => loops16 (P : Int) A n c (h : Int) ws W hn (hw.up hb) hl hs)
  have CP := Lib.hid (fun (W : World) (hb : Below w.heap.size w W) => period19 (P : Int) A n c (h : Int) ws W hn (hw.up hb) hl hs)
  have CN := Lib.hid (fun (W : World) (hb : Below w.heap.size w W) => knots14 (P : Int) A n c (h : Int) ws W hn (hw.up hb) hl hs)
  have CM := Lib.hid (fun (W : World) (hb : Below w.heap.size w W) => make12 (P : Int) A n c ws W hn (hw.up hb) hl hE)
  have HV := Lib.hid (Mk.valid hok n (by rw [hl]; exact Nat.le_refl _))
  have HEN : Hid (endsR (2 * (P : Int)) (Mk.works ws n).xs (Mk.works ws n).ps = endL ws (2 * (P : Int)).toNat) := by
    show _ = _
    rw [Mk.endsR hok n (by rw [hl]; exact Nat.le_refl _), ← hl, works_endL hok]
  have el : loopsR (P : Int) ws (h : Int) = Cyc.loops (nxS ws (2 * P) h) (2 * P) := by
    unfold loopsR; rw [if_pos hse]; unfold loopsS; rw [show (2 * (P : Int)).toNat = 2 * P by omega]; rfl
  have ep : perR (P : Int) ws (h : Int) = ((Cyc.per (nxS ws (2 * P) h) (2 * P) : Nat) : Int) := by
    unfold perR; rw [if_pos hse, show (2 * (P : Int)).toNat = 2 * P by omega]; rfl
  have ek : kcR (P : Int) ws (h : Int) = ((h * (P - h) : Nat) : Int) := by
    unfold kcR; rw [if_pos hse]; rfl
  have HPM : Hid (Cyc.Perm (nxS ws (2 * P) h) (2 * P)) := by
    have := nxS_perm hok h
    rw [show (2 * (P : Int)).toNat = 2 * P by omega] at this
    exact this
  rw [hse] at CL CP CN
  rw [el] at CL
  rw [ep] at CP
  rw [ek] at CN
  have HNB := Lib.hid (Cyc.per_bounds HPM.out (show 2 * P ≤ 48 by omega))
  obtain ⟨N, hN⟩ : ∃ N, N = Cyc.per (nxS ws (2 * P) h) (2 * P) := ⟨_, rfl⟩
  obtain ⟨ls, hls⟩ : ∃ ls, ls = Cyc.loops (nxS ws (2 * P) h) (2 * P) := ⟨_, rfl⟩
  rw [← hN] at CP HNB
  rw [← hls] at CL
  have HN := Lib.hid hN
  have HLS := Lib.hid hls
  rw [hE] at CK
  have hm : h * (P - h) ≤ 576 := Nat.le_trans (Nat.mul_le_mul (show h ≤ 24 by omega) (show P - h ≤ 24 by omega)) (Nat.le_refl _)
  have hPh : (P : Int) - (h : Int) = ((P - h : Nat) : Int) := by omega
  have i0 : (B : Int).tmod (P : Int) = (h : Int) := by rw [Int.tmod_eq_emod_of_nonneg (by omega), eh]
  have i1 : IntKind.i64.wrap ((P : Int) - (h : Int)) = ((P - h : Nat) : Int) := by rw [hPh]; exact IntWalk.i64_in _ (by omega)
  have i2 : IntKind.i64.wrap ((h : Int) * ((P - h : Nat) : Int)) = ((h * (P - h) : Nat) : Int) := by rw [← Int.natCast_mul]; exact IntWalk.i64_in _ (by omega)
  have i3 : ¬ P = 0 := by omega
  have hp0 : -9223372036854775808 ≤ 2 * (P : Int) := by omega
  have N1 := HNB.out.1
  have d3 : decide ((N : Int) < 1) = false := decide_eq_false (by omega)
  clear hw hl hs hE hok hse hh eh el ep ek hN hls hPh
  generalize hM : h * (P - h) = M at *
  clear hM
  go_enter Try.func6, Try.ntmps6
  go_wp2_with fail
  refine (CF.out _ (by go_grown)).mono ?_
  rintro e0 w1 ⟨⟨b, rfl⟩, hb1⟩
  have B1 := Lib.hid (bvia (show Below w.heap.size w _ by go_grown) hb1)
  have HB := Lib.hid (K0.below hb1 K0.lt)
  clear K0 hb1 CF
  cases b with
  | true =>
    go_wp2_with fail
    refine (shown10 _).mono ?_
    rintro e w2 ⟨rfl, hb2⟩
    go_wp2
    go_ret
    exact ⟨rfl, bvia B1.out hb2⟩
  | false =>
    have a0 : w1.cell? ⟨w.heap.size, 0, none⟩ = some (.int .i64 (P : Int)) := HB.out.cell 0
    have a1 : w1.cell? ⟨w.heap.size, 1, none⟩ = some (.slice A n c) := HB.out.cell 1
    have q := HB.out.lt
    go_wp2_with fail
    refine (CK.out _ B1.out).mono ?_
    rintro e2 w2 ⟨rfl, hb2⟩
    have B2 := Lib.hid (bvia B1.out hb2)
    have HB2 := Lib.hid (HB.out.below hb2 HB.out.lt)
    clear a0 a1 q hb2 B1 HB CK
    have a0 : w2.cell? ⟨w.heap.size, 0, none⟩ = some (.int .i64 (P : Int)) := HB2.out.cell 0
    have a1 : w2.cell? ⟨w.heap.size, 1, none⟩ = some (.slice A n c) := HB2.out.cell 1
    have q := HB2.out.lt
    go_wp2_with fail
    refine (CL.out _ B2.out).mono ?_
    rintro e3 w3 ⟨A3, n3, c3, rfl, r3, l3, hn3, hc3, hb3⟩
    have B3 := Lib.hid (bvia B2.out hb3)
    have HB3 := Lib.hid (HB2.out.below hb3 HB2.out.lt)
    have R3 := Lib.hid r3; have L3 := Lib.hid l3
    clear a0 a1 q hb3 B2 HB2 r3 l3 CL
    have a0 : w3.cell? ⟨w.heap.size, 0, none⟩ = some (.int .i64 (P : Int)) := HB3.out.cell 0
    have a1 : w3.cell? ⟨w.heap.size, 1, none⟩ = some (.slice A n c) := HB3.out.cell 1
    have q := HB3.out.lt
    go_wp2_with fail
    refine (CP.out _ B3.out).mono ?_
    rintro e4 w4 ⟨rfl, hb4⟩
    have B4 := Lib.hid (bvia B3.out hb4)
    have HB4 := Lib.hid (HB3.out.below hb4 HB3.out.lt)
    have R4 := Lib.hid (R3.out.up hb4)
    clear a0 a1 q hb4 B3 HB3 R3 CP
    have a0 : w4.cell? ⟨w.heap.size, 0, none⟩ = some (.int .i64 (P : Int)) := HB4.out.cell 0
    have a1 : w4.cell? ⟨w.heap.size, 1, none⟩ = some (.slice A n c) := HB4.out.cell 1
    have q := HB4.out.lt
    go_wp2_with fail
    refine (CN.out _ B4.out).mono ?_
    rintro e5 w5 ⟨A5, n5, c5, rfl, r5, l5, hn5, hc5, hb5⟩
    have B5 := Lib.hid (bvia B4.out hb5)
    have HB5 := Lib.hid (HB4.out.below hb5 HB4.out.lt)
    have R5 := Lib.hid (R4.out.up hb5)
    clear a0 a1 q hb5 B4 HB4 R4 CN r5 l5 hn5
    have a0 : w5.cell? ⟨w.heap.size, 0, none⟩ = some (.int .i64 (P : Int)) := HB5.out.cell 0
    have a1 : w5.cell? ⟨w.heap.size, 1, none⟩ = some (.slice A n c) := HB5.out.cell 1
    have q := HB5.out.lt
    go_wp2_with fail
    refine (CM.out _ B5.out).mono ?_
    rintro e6 w6 ⟨A6, n6, c6, D6, m6, d6, rfl, x6, p6, ln6, lm6, hc6, hc6', hd6, hd6', hb6⟩
    have B6 := Lib.hid (bvia B5.out hb6)
    have HB6 := Lib.hid (HB5.out.below hb6 HB5.out.lt)
    have R6 := Lib.hid (R5.out.up hb6)
    have X6 := Lib.hid x6
    have P6 := Lib.hid p6
    have CE := Lib.hid (fun (W : World) (hb : Below w6.heap.size w6 W) => ends31 (2 * (P : Int)) A6 D6 n6 c6 m6 d6 _ _ W (Nat.le_trans hc6 hc6') (Nat.le_trans hd6 hd6') (X6.out.up hb) (P6.out.up hb) ln6 lm6 hp0)
    rw [HEN.out, HV.out] at CE
    clear a0 a1 q hb6 B5 HB5 R5 CM x6 p6 ln6 lm6 X6 P6 HEN HV
    go_wp2_with fail
    refine (CE.out _ (by go_grown)).mono ?_
    rintro e7 w7 ⟨A7, n7, c7, rfl, r7, l7, hb7⟩
    have B67 : Below w6.heap.size w6 w7 := bvia (show Below w6.heap.size w6 _ by go_grown) hb7
    have B7 := Lib.hid (bvia B6.out B67)
    have HB7 := Lib.hid (HB6.out.below B67 HB6.out.lt)
    have R7 := Lib.hid (R6.out.up B67)
    have E7 := Lib.hid r7
    obtain ⟨T, hT⟩ : ∃ T, T = 2 * P := ⟨_, rfl⟩
    have eT : (2 * (P : Int)).toNat = T := by omega
    rw [eT] at E7 l7
    rw [← hT] at HPM HN HLS
    obtain rfl : T = n7 := by rw [← l7, endL_len]
    have hmk := mkI24 T (by omega)
    have hmb := mkB24 T (by omega)
    have HTT := Lib.hid hT
    have q0 := HB7.out.lt
    have t48 : T ≤ 48 := by omega
    have HLT : Hid (∀ j, j < T → plS ws j < T) := fun j hj => by have := plS_lt HOK.out (i := j) (by rw [eT]; exact hj); rw [eT] at this; exact this
    have HAT : Hid (∀ t, t < T → (atS ws T T)[t]? = some ((inS ws t : Nat) : Int)) := fun t ht => by have := atS_all HOK.out (t := t) (by rw [eT]; exact ht); rw [eT] at this; exact this
    have HIN : Hid (∀ t, t < T → inS ws t < T) := fun t ht => by have := inS_lt HOK.out (i := t) (by rw [eT]; exact ht); rw [eT] at this; exact this
    clear hb7 r7 l7 CE B67 B6 HB6 R6 hT eT hc6 hc6' hd6 hd6' hp0
    go_wp2
    go_loopw [18] (fun v wr => ∃ j : Nat, j ≤ T ∧ v = .int .i64 (j : Int) ∧ Hid (Has wr w7.heap.size 3 ((atS ws T j).map vInt)) ∧ Hid (Below w7.heap.size w7 wr)) (fun v _ => T - (intOf v).toNat)
    case atStart =>
      refine ⟨0, Nat.zero_le _, rfl, ?_, ?_⟩
      · rw [atS_zero]; exact Has.new (by rw [List.map_replicate]; rfl)
      · show Below _ _ _
        go_grown
    case round =>
      obtain ⟨j, hj, rfl, HS, HBW⟩ := hrel
      obtain ⟨wo, rfl⟩ : ∃ wo : World, wo = wr := ⟨_, rfl⟩
      by_cases hlt : j < T
      · have jk : (j : Int) < (T : Int) := by omega
        obtain ⟨ba, o, hA, hba, c0'⟩ := E7.out j _ (endL_get ws hlt)
        subst hA
        have c0 := (HBW.out.cell (p := ⟨ba, o + j, none⟩) hba).trans c0'
        have hpl := HLT.out j hlt
        have HST := Lib.hid (atS_set ws T (j := j))
        generalize plS ws j = qq at *
        have qi : (qq : Int) < (T : Int) := by omega
        have f0 := HS.out.free qq
        have qs := HS.out.lt
        have nz1 : ba ≠ w7.heap.size := by omega
        obtain ⟨u, hu⟩ := get_of_lt (l := (atS ws T j).map vInt) (k := qq) (by rw [List.length_map, atS_len]; exact hpl)
        have v0 : wo.cell? ⟨w7.heap.size, qq, none⟩ = some u := (HS.out.cell qq).trans hu
        clear c0'
        go_wp2
        go_roundw
        case rel =>
          refine ⟨j + 1, by omega, rfl, ?_, ?_⟩
          · show Has _ _ _ _
            rw [← HST.out, List.map_set]
            exact HS.out.set qq (vInt (j : Int))
          · show Below _ _ _
            exact HBW.out.setCell (p := ⟨w7.heap.size, qq, none⟩) (Nat.le_refl _) _
        case measure => first | (simp [intOf]; done) | (simp [intOf]; omega)
      · obtain rfl : j = T := by omega
        have HA := HS
        have B8 := Lib.hid (bvia B7.out HBW.out)
        have HB8 := Lib.hid (HB7.out.below HBW.out HB7.out.lt)
        have R8 := Lib.hid (R7.out.up HBW.out)
        have qA := HS.out.lt
        clear HS HBW E7 B7 HB7 R7 hlt hmk hj HLT
        have jk : ¬ (j : Int) < (j : Int) := by omega
        have hs3 : n3 ≤ 48 := by have := loops_le HPM.out t48; rw [← HLS.out, L3.out] at this; exact this
        go_wp2
        go_loopw [20] (fun v wr => ∃ i : Nat, i ≤ n3 ∧ v = .int .i64 (i : Int) ∧ Hid (Has wr wo.heap.size 4 (bzN j (seenA ls i 0))) ∧ Hid (Has wr w7.heap.size 3 ((atS ws j j).map vInt)) ∧ Hid (Below wo.heap.size wo wr)) (fun v _ => n3 - (intOf v).toNat)
        case atStart =>
          refine ⟨0, Nat.zero_le _, rfl, ?_, ?_, ?_⟩
          · rw [seenA_zero]; exact Has.new rfl
          · exact HA.out.alloc _
          · show Below _ _ _
            go_grown
        case round =>
          obtain ⟨i, hi, rfl, HZ, HX, HBW⟩ := hrel
          obtain ⟨wp, rfl⟩ : ∃ wp : World, wp = wr := ⟨_, rfl⟩
          by_cases hlt : i < n3
          · have jk : (i : Int) < (n3 : Int) := by omega
            obtain ⟨l, hli⟩ := get_of_lt (l := ls) (k := i) (by rw [L3.out]; exact hlt)
            have HLI := Lib.hid hli
            clear hli
            have hll := loop_le HPM.out t48 l (by rw [← HLS.out]; exact mem_of_get HLI.out)
            have lp := Cyc.loops_pos HPM.out l (by rw [← HLS.out]; exact mem_of_get HLI.out)
            obtain ⟨N1, hN1⟩ : ∃ N1, N1 = l.length := ⟨_, rfl⟩
            have HNL := Lib.hid hN1
            rw [← hN1] at hll lp
            clear hN1
            go_wp2
            go_loopw [21] (fun v wr => ∃ k : Nat, k ≤ N1 ∧ v = .int .i64 (k : Int) ∧ Hid (Has wr wo.heap.size 4 (bzN j (seenA ls i k))) ∧ Hid (Has wr w7.heap.size 3 ((atS ws j j).map vInt)) ∧ Hid (Below wo.heap.size wo wr)) (fun v _ => N1 - (intOf v).toNat)
            case atStart => exact ⟨0, Nat.zero_le _, rfl, HZ, HX, HBW⟩
            case round =>
              clear HZ HX HBW
              obtain ⟨k, hk, rfl, HZ, HX, HBW⟩ := hrel
              obtain ⟨wq, rfl⟩ : ∃ wq : World, wq = wr := ⟨_, rfl⟩
              obtain ⟨ba, o, A', c', e7, hba, c0', re⟩ := (R8.out.up HBW.out) i l HLI.out
              subst e7
              have c0 : wq.cell? ⟨ba, o + i, none⟩ = some (.slice A' N1 c') := by rw [c0', HNL.out]
              clear c0'
              have RE := Lib.hid re
              clear re
              by_cases hkt : k < N1
              · have jl : (k : Int) < (N1 : Int) := by omega
                obtain ⟨fr, hfr⟩ := get_of_lt (l := l) (k := k) (by rw [← HNL.out]; exact hkt)
                obtain ⟨f1, f2, f3⟩ := loop_facts HPM.out (by rw [← HLS.out]; exact mem_of_get HLI.out) hfr
                have f3' : l[(k + 1) % N1]? = some (nxS ws j h fr) := by rw [HNL.out]; exact f3
                have HNW := Lib.hid (seenA_new HPM.out (by rw [← HLS.out]; exact HLI.out) hfr)
                have HUP := Lib.hid (seenA_upd HLI.out hfr)
                rw [← HLS.out] at HNW
                obtain ⟨b2, o2, hA', hb2, k0⟩ := RE.out k fr hfr
                subst hA'
                obtain ⟨b3, o3, hA3, hb3, k1⟩ := RE.out ((k + 1) % N1) _ f3'
                obtain ⟨b4, o4, hA4, hb4, k2⟩ := RE.out 0 _ (head_get (by rw [← HNL.out]; exact lp))
                injection hA3 with hA3
                injection hA3 with hA3 hA3'
                injection hA4 with hA4
                injection hA4 with hA4 hA4'
                subst hA3 hA3' hA4 hA4'
                rw [Nat.add_zero] at k2
                have HNX : Hid (nxS ws j h fr = (inS ws fr + 2 * h) % j) := rfl
                have hin := HIN.out fr f1
                have g0 : wq.cell? ⟨w7.heap.size, fr, none⟩ = some (vInt ((inS ws fr : Nat) : Int)) := (HX.out.cell fr).trans (by rw [List.getElem?_map, HAT.out fr f1]; rfl)
                have g1 : wq.cell? ⟨wo.heap.size, fr, none⟩ = some (.bool false) := (HZ.out.cell fr).trans (by rw [bzN_get _ _ f1, HNW.out])
                have i10 : IntKind.i64.wrap ((k : Int) + 1) = (k : Int) + 1 := IntWalk.i64_in _ (by omega)
                have i11 : ((k : Int) + 1).tmod (N1 : Int) = (((k + 1) % N1 : Nat) : Int) := by rw [Int.tmod_eq_emod_of_nonneg (by omega)]; simp
                have i12 : ¬ N1 = 0 := by omega
                have hkm := Nat.mod_lt (k + 1) lp
                have i13 : (((k + 1) % N1 : Nat) : Int) < (N1 : Int) := by omega
                clear hfr f3 f3' RE HNW
                generalize nxS ws j h fr = tq at *
                generalize l.headD 0 = hd0 at *
                generalize inS ws fr = af at *
                generalize (k + 1) % N1 = k' at *
                have f0 := HZ.out.free fr
                have qz := HZ.out.lt
                have i20 : IntKind.i64.wrap ((af : Int) / 2) = (af : Int) / 2 := IntWalk.i64_in _ (by omega)
                have i21 : IntKind.i64.wrap ((af : Int) / 2 + (h : Int)) = (af : Int) / 2 + (h : Int) := IntWalk.i64_in _ (by omega)
                have i22 : ((af : Int) / 2 + (h : Int)).tmod (P : Int) = ((af : Int) / 2 + (h : Int)) % (P : Int) := Int.tmod_eq_emod_of_nonneg (by omega)
                have i23 : (af : Int).tmod 2 = (af : Int) % 2 := Int.tmod_eq_emod_of_nonneg (by omega)
                have hx1 : 0 ≤ ((af : Int) / 2 + (h : Int)) % (P : Int) := Int.emod_nonneg _ (by omega)
                have hx2 : ((af : Int) / 2 + (h : Int)) % (P : Int) < (P : Int) := Int.emod_lt_of_pos _ (by omega)
                have i24 : IntKind.i64.wrap (2 * (((af : Int) / 2 + (h : Int)) % (P : Int))) = 2 * (((af : Int) / 2 + (h : Int)) % (P : Int)) := IntWalk.i64_in _ (by omega)
                have i26 : IntKind.i64.wrap (2 * (((af : Int) / 2 + (h : Int)) % (P : Int)) + (af : Int) % 2) = (tq : Int) := by
                  rw [IntWalk.i64_in _ (by omega)]
                  have e1 := joint_ref (P := P) (h := h) (j := af) (by omega)
                  rw [HNX.out, HTT.out, ← e1]
                  simp
                clear hx1 hx2
                have d10 : decide ((fr : Int) < 0) = false := decide_eq_false (by omega)
                have d11 : decide ((j : Int) ≤ (fr : Int)) = false := decide_eq_false (by omega)
                have d12 : decide ((fr : Int) < (hd0 : Int)) = false := decide_eq_false (by omega)
                have x10 : ¬ (fr : Int) < 0 := by omega
                have x11 : ¬ (j : Int) ≤ (fr : Int) := by omega
                have x12 : ¬ (fr : Int) < (hd0 : Int) := by omega
                have x13 : (fr : Int) < (j : Int) := by omega
                have nz1 : w7.heap.size ≠ wo.heap.size := by omega
                have qb := HB8.out.lt
                have nz2 : w.heap.size ≠ wo.heap.size := by omega
                have p0 : wq.cell? ⟨w.heap.size, 0, none⟩ = some (.int .i64 (P : Int)) := (HBW.out.cell (p := ⟨w.heap.size, 0, none⟩) qb).trans (HB8.out.cell 0)
                go_wp2
                go_region
                go_wp2
                go_roundw
                case rel =>
                  refine ⟨k + 1, by omega, rfl, ?_, ?_, ?_⟩
                  · show Has _ _ _ _
                    rw [← HUP.out, ← bzN_set]
                    exact HZ.out.set fr (.bool true)
                  · show Has _ _ _ _
                    exact HX.out.far nz1 _ _
                  · show Below _ _ _
                    exact (HBW.out.setCell (p := ⟨wo.heap.size, fr, none⟩) (Nat.le_refl _) _).drew
                case measure => first | (simp [intOf]; done) | (simp [intOf]; omega)
              · obtain rfl : k = N1 := by omega
                have HZN : Hid (bzN j (seenA ls i k) = bzN j (seenA ls (i + 1) 0)) := by show _ = _; rw [HNL.out, seenA_next HLI.out]
                rw [HZN.out] at HZ
                have jl : ¬ (k : Int) < (k : Int) := by omega
                have hx : ¬ k = 0 := by omega
                have hdv : k ∣ N := by rw [HNL.out, HN.out]; exact Cyc.per_mem (by rw [← HLS.out]; exact mem_of_get HLI.out)
                have i10 : (N : Int).tmod (k : Int) = 0 := by rw [Int.tmod_eq_emod_of_nonneg (by omega), ← Int.natCast_emod, Nat.mod_eq_zero_of_dvd hdv]; rfl
                have hdz : decide ((k : Int) = 0) = false := decide_eq_false (by omega)
                clear hdv
                obtain ⟨b4, o4, hA4, hb4, k2⟩ := RE.out 0 _ (head_get (by rw [← HNL.out]; exact lp))
                rw [Nat.add_zero] at k2
                subst hA4
                by_cases hi0 : 0 < i
                · obtain ⟨m, hm1⟩ : ∃ m, i = m + 1 := ⟨i - 1, by omega⟩
                  obtain ⟨l', hl'⟩ := get_of_lt (l := ls) (k := m) (by rw [L3.out]; omega)
                  have hup := loop_up HPM.out (by rw [← HLS.out]; exact hl') (by rw [← HLS.out, ← hm1]; exact HLI.out)
                  obtain ⟨b6, o6, A6', c6', e6', hb6, c6x, re6⟩ := (R8.out.up HBW.out) m l' hl'
                  have lp' := Cyc.loops_pos HPM.out l' (by rw [← HLS.out]; exact mem_of_get hl')
                  obtain ⟨b7, o7, hA7, hb7, k7⟩ := re6 0 _ (head_get lp')
                  injection e6' with e6'
                  injection e6' with e6' e6''
                  subst e6' e6'' hA7
                  rw [Nat.add_zero] at k7
                  generalize l'.length = N2 at *
                  generalize l'.headD 0 = hd1 at *
                  generalize l.headD 0 = hd0 at *
                  have HM := Lib.hid hm1
                  clear hm1 hl' re6 RE
                  go_wp2
                  have jk : (i : Int) < (n3 : Int) := by omega
                  have jm : (m : Int) < (n3 : Int) := by have := HM.out; omega
                  have jN : (0 : Int) < (k : Int) := by omega
                  have jN2 : (0 : Int) < (N2 : Int) := by omega
                  have dx1 : decide ((0 : Int) < (i : Int)) = true := decide_eq_true (by omega)
                  have dx2 : decide ((hd0 : Int) ≤ (hd1 : Int)) = false := decide_eq_false (by omega)
                  have hdq : ((k : Int) == 0) = false := by simp; omega
                  have i12 : IntKind.i64.wrap ((i : Int) - 1) = (m : Int) := by rw [show (i : Int) - 1 = (m : Int) by have := HM.out; omega]; exact IntWalk.i64_in _ (by omega)
                  go_big_quiet (fail)
                  go_wp2
                  go_roundw
                  case rel => exact ⟨i + 1, by omega, rfl, HZ, HX, by show Below _ _ _; exact below_drewN HBW.out _⟩
                  case measure => first | (simp [intOf]; done) | (simp [intOf]; omega)
                · generalize l.headD 0 = hd0 at *
                  clear RE
                  go_wp2
                  have jk : (i : Int) < (n3 : Int) := by omega
                  have jN : (0 : Int) < (k : Int) := by omega
                  have dx1 : decide (0 < i) = false := decide_eq_false (by omega)
                  have hdq : ((k : Int) == 0) = false := by simp; omega
                  clear hi0
                  go_big_quiet (fail)
                  go_wp2
                  go_roundw
                  case rel => exact ⟨i + 1, by omega, rfl, HZ, HX, by show Below _ _ _; exact below_drewN HBW.out _⟩
                  case measure => first | (simp [intOf]; done) | (simp [intOf]; omega)
          · obtain rfl : i = n3 := by omega
            have HBT : Hid (∀ t, t < j → (bzN j (seenA ls i 0))[t]? = some (.bool true)) := fun t ht => by
              have e := seenA_all HPM.out ht
              rw [← HLS.out, L3.out] at e
              rw [bzN_get _ _ ht, e]
            have jk : ¬ (i : Int) < (i : Int) := by omega
            have B9 := Lib.hid (bvia B8.out HBW.out)
            have R9 := Lib.hid (R8.out.up HBW.out)
            have qZ := HZ.out.lt
            have HZ9 := HZ
            clear HZ HX HBW HA HB8 R8 B8 hlt hi HAT HIN
            go_wp2
            go_loopw [25] (fun v wr => ∃ t : Nat, t ≤ j ∧ v = .int .i64 (t : Int) ∧ Hid (Has wr wo.heap.size 4 (bzN j (seenA ls i 0))) ∧ Hid (Below wp.heap.size wp wr)) (fun v _ => j - (intOf v).toNat)
            case atStart => exact ⟨0, Nat.zero_le _, rfl, HZ9, by show Below _ _ _; go_grown⟩
            case round =>
              clear HZ9
              obtain ⟨t, ht, rfl, HZ, HBW⟩ := hrel
              obtain ⟨wq, rfl⟩ : ∃ wq : World, wq = wr := ⟨_, rfl⟩
              by_cases htt : t < j
              · have jl : (t : Int) < (j : Int) := by omega
                have g1 : wq.cell? ⟨wo.heap.size, t, none⟩ = some (.bool true) := (HZ.out.cell t).trans (HBT.out t htt)
                go_wp2
                go_roundw
                case rel => exact ⟨t + 1, by omega, rfl, HZ, HBW⟩
                case measure => first | (simp [intOf]; done) | (simp [intOf]; omega)
              · obtain rfl : t = j := by omega
                have jl : ¬ (t : Int) < (t : Int) := by omega
                have B10 := Lib.hid (bvia B9.out HBW.out)
                have R10 := Lib.hid (R9.out.up HBW.out)
                clear HZ HBW HBT B9 R9 htt ht qZ
                go_wp2
                go_loopw [26] (fun v wr => ∃ d : Nat, 2 ≤ d ∧ d ≤ 49 ∧ v = .int .i64 (d : Int) ∧ Hid (Below wq.heap.size wq wr)) (fun v _ => 49 - (intOf v).toNat)
                case atStart => exact ⟨2, Nat.le_refl _, by omega, rfl, by show Below _ _ _; go_grown⟩
                case round =>
                  obtain ⟨d, hd2, hd49, rfl, HBW⟩ := hrel
                  obtain ⟨wd, rfl⟩ : ∃ wd : World, wd = wr := ⟨_, rfl⟩
                  by_cases hdd : d < 49
                  · have jd : (d : Int) ≤ 48 := by omega
                    have jd0 : ¬ d = 0 := by omega
                    have em : (N : Int).tmod (d : Int) = ((N % d : Nat) : Int) := by rw [Int.tmod_eq_emod_of_nonneg (by omega)]; simp
                    by_cases hdv : N % d = 0
                    · rw [hdv] at em
                      have HDV := Lib.hid hdv
                      clear hdv
                      go_wp2
                      go_loopw [27, 28] (fun g v wr => ∃ k : Nat, k ≤ i ∧ v = .int .i64 (k : Int) ∧ g = .bool (anyA ls (N / d) k) ∧ Hid (Below wq.heap.size wq wr)) (fun _ v _ => i - (intOf v).toNat)
                      case atStart => exact ⟨0, Nat.zero_le _, rfl, by rw [anyA_zero], by show Below _ _ _; exact HBW⟩
                      case round =>
                        clear HBW
                        obtain ⟨k, hk, rfl, rfl, HBW⟩ := hrel
                        obtain ⟨wk, rfl⟩ : ∃ wk : World, wk = wr := ⟨_, rfl⟩
                        by_cases hkt : k < i
                        · have jkk : (k : Int) < (i : Int) := by omega
                          obtain ⟨l, hl⟩ := get_of_lt (l := ls) (k := k) (by rw [L3.out]; exact hkt)
                          have HAS := Lib.hid (anyA_succ hl (N / d))
                          have lp := Cyc.loops_pos HPM.out l (by rw [← HLS.out]; exact mem_of_get hl)
                          obtain ⟨ba, o, A', c', e7, hba, c0, re⟩ := (R10.out.up HBW.out) k l hl
                          subst e7
                          clear re hl
                          generalize l.length = N1 at *
                          obtain ⟨g, hg⟩ : ∃ g, g = anyA ls (N / d) k := ⟨_, rfl⟩
                          rw [← hg] at HAS ⊢
                          have HG := Lib.hid hg
                          clear hg
                          cases g with
                          | true =>
                            go_wp2
                            go_big_quiet (fail)
                            go_wp2
                            go_roundw
                            case rel => exact ⟨k + 1, by omega, rfl, by rw [HAS.out]; rfl, by show Below _ _ _; exact below_drewN HBW.out _⟩
                            case measure => first | (simp [intOf]; done) | (simp [intOf]; omega)
                          | false =>
                            have HED : Hid (wrap64 ((N : Int) / (d : Int)) = ((N / d : Nat) : Int)) := by
                              show _ = _
                              rw [show (N : Int) / (d : Int) = ((N / d : Nat) : Int) by simp]
                              exact IntWalk.wrap64_in _ (by have h1 := Nat.div_le_self N d; have h2 := HNB.out.2; generalize N / d = Q at *; omega)
                            have HER : Hid (((N / d : Nat) : Int).tmod (N1 : Int) = (((N / d) % N1 : Nat) : Int)) := by show _ = _; rw [Int.tmod_eq_emod_of_nonneg (Int.natCast_nonneg _)]; simp
                            have jN : (0 : Int) < (N1 : Int) := by omega
                            have jN0 : ¬ N1 = 0 := by omega
                            go_wp2
                            go_big_quiet (fail)
                            go_wp2
                            go_roundw
                            case rel => exact ⟨k + 1, by omega, rfl, by rw [HAS.out, Bool.false_or, nz_cast, ← HER.out]; exact congrArg (fun z : Int => Value.bool (z.tmod (N1 : Int) != 0)) HED.out, by show Below _ _ _; exact below_drewN HBW.out _⟩
                            case measure => first | (simp [intOf]; done) | (simp [intOf]; omega)
                        · obtain rfl : k = i := by omega
                          have HT : anyA ls (N / d) k = true := by
                            have e := anyA_all HPM.out t48 hd2 (by rw [← HN.out]; exact HDV.out)
                            rw [← HN.out, ← HLS.out, L3.out] at e
                            exact e
                          rw [HT]
                          have jkk : ¬ (k : Int) < (k : Int) := by omega
                          go_wp2
                          go_roundw
                          case rel => exact ⟨d + 1, by omega, by omega, rfl, HBW⟩
                          case measure => first | (simp [intOf]; done) | (simp [intOf]; omega)
                    · generalize N % d = x at *
                      have hx : ¬ (x : Int) = 0 := by omega
                      go_wp2
                      go_roundw
                      case rel => exact ⟨d + 1, by omega, by omega, rfl, HBW⟩
                      case measure => first | (simp [intOf]; done) | (simp [intOf]; omega)
                  · obtain rfl : d = 49 := by omega
                    go_wp2_with fail
                    refine (shown10 _).mono ?_
                    rintro e wz ⟨rfl, hbz⟩
                    have B11 := Lib.hid (bvia (bvia B10.out HBW.out) hbz)
                    go_wp2
                    go_ret
                    exact ⟨rfl, B11.out⟩
end Go.Proofs.Ytdimfbmbomgiaaa
