/-
  Contracts of torchonref04: Touch, Order (of a valid sheet).
-/
import Derived.Test.YtpljaoagiaijiaaV11
import Derived.Test.YtpljaoagiaijiaaV12
import Derived.Laws.MakeOwn
import Derived.Deep.Cut
import Derived.Lib.SliceRun
namespace Go.Proofs.Ytpljaoagiaijiaa
open Go.RowKit
theorem touch04 (k1 a1 k2 a2 : Int) (s1 s2 : ByteArray) (w : World) (h1 : -1000 ≤ a1) (h2 : a1 ≤ 1000) (h3 : -1000 ≤ a2) (h4 : a2 ≤ 1000) :
    Calls Try.prog 44 #[.agg #[.int .i64 k1, .int .i64 a1, .string s1], .agg #[.int .i64 k2, .int .i64 a2, .string s2]] w fun e w' => e = .returned (.bool (touch a1 a2)) ∧ Below w.heap.size w w' := by
  go_enter Try.func44, Try.ntmps44
  go_wp2
  all_goals go_ret
  all_goals exact ⟨ret_bool (by simp [touch]; try omega), by go_grown⟩
theorem infoBl : (Try.prog.info? 4).map (fun i => (i.zero, i.size, i.bytes)) = some (some (.bool false), 1, 1) := by kernel_rfl
theorem mkB (n : Nat) (_ : n ≤ 1000) (W : World) : (Instr.makeSlice 79 (.int .i64 (n : Int)) (.int .i64 (n : Int))).run Try.prog W = .ok (.slice (some ⟨W.heap.size, 0, none⟩) n n) (W.alloc (.cells (madeCells #[.bool false] n) 4)) := by
  obtain ⟨i, hi, hz, hs, hb⟩ := info_parts infoBl
  have h := run_make (P := Try.prog) W 79 4 i (.bool false) Try.underlying79 hi hz .i64 .i64 (n : Int) (n : Int) (by omega) (Int.le_refl _) (by rw [hb]; omega) (by omega)
  rw [hs] at h
  simpa [Value.cells] using h
theorem made_rep (z : Value) (n : Nat) : madeCells #[z] n = (List.replicate n z).toArray := by
  apply Array.ext'
  rw [toList_madeCells_one]
/-- which numbers stand among the first j -/
def isL (H : List Int) (k j : Nat) : List Value := (List.range k).map fun (T : Nat) => .bool ((H.take j).contains (T : Int))
theorem isL_get {H : List Int} {k j T : Nat} (h : T < k) : (isL H k j)[T]? = some (.bool ((H.take j).contains (T : Int))) := by simp [isL, h]
theorem isL_zero (H : List Int) (k : Nat) : isL H k 0 = List.replicate k (.bool false) := by
  apply List.ext_getElem?
  intro i
  rw [List.getElem?_replicate]
  by_cases h : i < k
  · rw [isL_get h]; simp [h]
  · have : (isL H k 0)[i]? = none := by rw [List.getElem?_eq_none]; simp [isL]; omega
    rw [this]; simp [h]
theorem isL_set {H : List Int} {k j T : Nat} (h : H[j]? = some (T : Int)) : (isL H k j).set T (.bool true) = isL H k (j + 1) := by
  apply List.ext_getElem?
  intro i
  have hl : ∀ j, (isL H k j).length = k := fun j => by simp [isL]
  rw [List.getElem?_set, hl]
  by_cases hi : i < k
  · rw [isL_get hi, isL_get hi, List.take_add_one, h]
    by_cases hT : T = i
    · subst hT; simp [hi]
    · rw [if_neg hT]
      congr 2
      rw [Bool.eq_iff_iff]
      simp
      omega
  · have e1 : (isL H k j)[i]? = none := by rw [List.getElem?_eq_none]; rw [hl]; omega
    have e2 : (isL H k (j + 1))[i]? = none := by rw [List.getElem?_eq_none]; rw [hl]; omega
    rw [e1, e2]
    by_cases hT : T = i
    · subst hT; simp [hi]
    · rw [if_neg hT]
theorem ordI_bad {ws : List Wk} {order : List Int} {j : Nat} {b : Int} (h : order[j]? = some b) (hb : (decide (0 ≤ b) && decide (b < (ws.length : Int)) && !(order.take j).contains b && befTo ws (order.take j) b.toNat b.toNat) = false) (hl : order.length = ws.length) : ordB ws order = false := by
  have hj := lt_of_get h
  have hD : order.getD j 0 = b := by rw [List.getD_eq_getElem?_getD, h]; rfl
  have hI : ordI ws order j = false := by unfold ordI; rw [hD]; exact hb
  unfold ordB
  rw [ordTo_no hI hj, Bool.and_false]
theorem bef_no {ws : List Wk} {done : List Int} {b a k : Nat} (h : touchB (wAt ws a) (wAt ws b) = true) (hd : done.contains (a : Int) = false) (hk : a < k) : befTo ws done b k = false := by
  unfold befTo
  rw [List.all_eq_false]
  exact ⟨a, List.mem_range.2 hk, by rw [h, hd]; decide⟩
set_option maxRecDepth 100000 in
set_option maxHeartbeats 8000000 in
theorem order15 (p : Int) (A D : Option Addr) (n c k e : Nat) (ws : List Wk) (ord : List Int) (w : World) (hw : RdW w w.heap.size A ws) (hl : ws.length = n) (hok : SOk p ws) (hd : RdI w w.heap.size D ord) (hlk : ord.length = k) (hk : k ≤ 9223372036854775807) :
    Calls Try.prog 15 #[.agg #[.int .i64 p, .slice A n c], .slice D k e] w fun e w' => e = .returned (.bool (ordB ws ord)) ∧ Below w.heap.size w w' := by
  have HW := Lib.hid hw
  have HD := Lib.hid hd
  have HOK := Lib.hid hok
  have hn4 : n ≤ 400 := by rw [← hl]; exact hok.len
  have HL := Lib.hid hl
  have HK := Lib.hid hlk
  have K0 : Has (w.alloc (.cells #[.int .i64 p, .slice A n c] 24)) w.heap.size 24 [.int .i64 p, .slice A n c] := Has.new rfl
  by_cases hkn : k = n
  case neg =>
    have hkb : ((k : Int) != (n : Int)) = true := by simp; omega
    have e0 : ordB ws ord = false := by
      unfold ordB
      have : (ord.length == ws.length) = false := by rw [hlk, hl]; simpa using hkn
      rw [this]; rfl
    rw [e0]
    clear hw hl hok hd hlk hkn
    go_enter Try.func15, Try.ntmps15
    go_wp2
    go_ret
    exact ⟨rfl, by go_grown⟩
  subst hkn
  clear hw hl hok hd hlk
  have t0 : ((k : Int) != (k : Int)) = false := by simp
  have hmk := mkB k (by omega)
  have hG0 : Has ((w.alloc (.cells #[.int .i64 p, .slice A k c] 24)).alloc (.cells (madeCells #[.bool false] k) 4)) (w.heap.size + 1) 4 (isL ord k 0) := Has.new2 (by rw [made_rep, isL_zero])
  have hC0 := K0.alloc (.cells (madeCells #[.bool false] k) 4)
  have hB0 : Below w.heap.size w ((w.alloc (.cells #[.int .i64 p, .slice A k c] 24)).alloc (.cells (madeCells #[.bool false] k) 4)) := by go_grown
  have HG0 := Lib.hid hG0
  have HC0 := Lib.hid hC0
  have HR : Hid (ordB ws ord = ordTo ws ord k) := by
    show ordB ws ord = _
    unfold ordB
    rw [HK.out, HL.out, beq_self_eq_true, Bool.true_and]
  clear hG0 hC0 K0
  go_enter Try.func15, Try.ntmps15
  go_wp2
  clear hmk
  go_loopw [6] (fun i wr => ∃ j : Nat, j ≤ k ∧ i = .int .i64 (j : Int) ∧ ordTo ws ord j = true ∧ Hid (Has wr (w.heap.size + 1) 4 (isL ord k j)) ∧ Hid (Has wr w.heap.size 24 [.int .i64 p, .slice A k c]) ∧ Below w.heap.size w wr) (fun i _ => k - (intOf i).toNat)
  case atStart => exact ⟨0, Nat.zero_le _, rfl, rfl, HG0, HC0, hB0⟩
  case round =>
    clear HG0 HC0 hB0
    obtain ⟨j, hj, rfl, hto, HG, HC, hb⟩ := hrel
    obtain ⟨wo, rfl⟩ : ∃ wo : World, wo = wr := ⟨_, rfl⟩
    have HTO := Lib.hid hto; clear hto
    by_cases hlt : j < k
    · obtain ⟨b, hbj⟩ := get_of_lt (l := ord) (k := j) (by rw [HK.out]; exact hlt)
      obtain ⟨bd, od, rfl, hbd, cd⟩ := (HD.out.up hb) j b hbj
      have HBJ := Lib.hid hbj; clear hbj
      have jk : (j : Int) < (k : Int) := by omega
      by_cases h0 : b < 0
      · have d0 : decide (b < 0) = true := decide_eq_true h0
        have HF : Hid (ordB ws ord = false) := ordI_bad HBJ.out (by rw [decide_eq_false (by omega)]; rfl) (by rw [HK.out, HL.out])
        go_wp2
        go_ret
        exact ⟨ret_bool HF.out.symm, hb⟩
      · have d0 : decide (b < 0) = false := decide_eq_false h0
        by_cases h1 : (k : Int) ≤ b
        · have d1 : decide ((k : Int) ≤ b) = true := decide_eq_true h1
          have HF : Hid (ordB ws ord = false) := ordI_bad HBJ.out (by rw [decide_eq_true (show 0 ≤ b by omega), decide_eq_false (show ¬ b < (ws.length : Int) by rw [HL.out]; omega)]; rfl) (by rw [HK.out, HL.out])
          go_wp2
          go_ret
          exact ⟨ret_bool HF.out.symm, hb⟩
        · have d1 : decide ((k : Int) ≤ b) = false := decide_eq_false h1
          obtain ⟨bn, rfl⟩ := Int.eq_ofNat_of_zero_le (show 0 ≤ b by omega)
          have hbn : bn < k := by omega
          have hbn2 : (bn : Int) < (k : Int) := by omega
          have g0 : wo.cell? ⟨w.heap.size + 1, bn, none⟩ = some (.bool ((ord.take j).contains (bn : Int))) := (HG.out.cell bn).trans (isL_get hbn)
          have qg := HG.out.lt
          cases hin : (ord.take j).contains (bn : Int) with
          | true =>
            rw [hin] at g0
            have HF : Hid (ordB ws ord = false) := ordI_bad HBJ.out (by rw [hin, decide_eq_true (show (0 : Int) ≤ (bn : Int) by omega), decide_eq_true (show (bn : Int) < (ws.length : Int) by rw [HL.out]; omega)]; rfl) (by rw [HK.out, HL.out])
            clear hin
            go_wp2
            go_ret
            exact ⟨ret_bool HF.out.symm, hb⟩
          | false =>
            rw [hin] at g0
            have HIN := Lib.hid hin; clear hin
            obtain ⟨y, hy⟩ := get_of_lt (l := ws) (k := bn) (by rw [HL.out]; exact hbn)
            obtain ⟨ky0, ay0, ay1, _⟩ := bad_at (HOK.out.good y (mem_of_get hy))
            have hp24 := HOK.out.le
            have HY := Lib.hid hy
            have HYA := Lib.hid (wAt_get hy)
            clear hy
            have hz := hb.size
            go_wp2
            go_loopw [8] (fun i wr => ∃ a : Nat, a ≤ bn ∧ i = .int .i64 (a : Int) ∧ befTo ws (ord.take j) bn a = true ∧ Below wo.heap.size wo wr) (fun i _ => bn - (intOf i).toNat)
            case atStart => exact ⟨0, Nat.zero_le _, rfl, rfl, Below.refl _ _⟩
            case round =>
              obtain ⟨a, ha, rfl, hbef, hbq⟩ := hrel
              obtain ⟨wq, rfl⟩ : ∃ wq : World, wq = wr := ⟨_, rfl⟩
              have HBE := Lib.hid hbef; clear hbef
              have HGq := Lib.hid (HG.out.below hbq HG.out.lt)
              have HCq := Lib.hid (HC.out.below hbq HC.out.lt)
              have Bq := hb.trans (hbq.mono hz)
              by_cases hla : a < bn
              · obtain ⟨x, hx⟩ := get_of_lt (l := ws) (k := a) (by rw [HL.out]; omega)
                obtain ⟨kx0, ax0, ax1, _⟩ := bad_at (HOK.out.good x (mem_of_get hx))
                have HXA := Lib.hid (wAt_get hx)
                obtain ⟨ba, o, hA1, hba, c0, c1, c2⟩ := (HW.out.up Bq) a x hx
                obtain ⟨ba2, o2, hA2, _, e0, e1, e2⟩ := (HW.out.up Bq) bn y HY.out
                rw [hA1] at hA2
                injection hA2 with hA2; injection hA2 with hA2 hA3; subst hA2; subst hA3
                subst hA1
                clear hx
                have s1 : wq.cell? ⟨w.heap.size, 1, none⟩ = some (.slice (some ⟨ba, o, none⟩) k c) := HCq.out.cell 1
                have qs := HCq.out.lt
                have m0 : wq.cell? ⟨w.heap.size + 1, a, none⟩ = some (.bool ((ord.take j).contains (a : Int))) := (HGq.out.cell a).trans (isL_get (by omega))
                have qq := HGq.out.lt
                have ak : (a : Int) < (k : Int) := by omega
                have ak2 : a < k := by omega
                have ab : (a : Int) < (bn : Int) := by omega
                have J := Lib.hid (fun W => touch04 x.kind x.at_ y.kind y.at_ x.word y.word W (by omega) (by omega) (by omega) (by omega))
                have hTB : touchB (wAt ws a) (wAt ws bn) = touch x.at_ y.at_ := by rw [HXA.out, HYA.out]; rfl
                have hxc := fun (x : Ext wq) => x.cell
                cases htc : touch x.at_ y.at_ with
                | true =>
                  rw [htc] at hTB J
                  have HTB := Lib.hid hTB
                  clear hTB htc
                  cases hd : (ord.take j).contains (a : Int) with
                  | true =>
                    rw [hd] at m0
                    have HBE2 : Hid (befTo ws (ord.take j) bn (a + 1) = true) := by show _ = true; rw [befTo_succ, HBE.out, HTB.out, hd]; rfl
                    clear hd
                    go_upto_region 13 with (fail)
                    refine wp_region_ext (by kernel_rfl) (by kernel_rfl) ?_
                    repeat (go_big_quiet_step ((go_at_call 44; exact ext_call (J.out _))))
                    refine wpQuiet_nil ?_
                    intro _ hw'
                    obtain ⟨⟨w2, hb2⟩, rfl⟩ := hw'
                    clear hxc
                    go_wp2
                    go_roundw
                    case rel => exact ⟨a + 1, by omega, by go_num, HBE2.out, bvia hbq hb2⟩
                    case measure => first | (simp [intOf]; done) | (simp [intOf]; omega)
                  | false =>
                    rw [hd] at m0
                    have HF : Hid (ordB ws ord = false) := ordI_bad HBJ.out (by
                      have hcn : ((bn : Nat) : Int).toNat = bn := by simp
                      rw [hcn, bef_no HTB.out hd hla, Bool.and_false]) (by rw [HK.out, HL.out])
                    clear hd
                    go_upto_region 13 with (fail)
                    refine wp_region_ext (by kernel_rfl) (by kernel_rfl) ?_
                    repeat (go_big_quiet_step ((go_at_call 44; exact ext_call (J.out _))))
                    refine wpQuiet_nil ?_
                    intro _ hw'
                    obtain ⟨⟨w2, hb2⟩, rfl⟩ := hw'
                    clear hxc
                    go_wp2
                    go_ret
                    exact ⟨ret_bool HF.out.symm, hb.trans ((bvia hbq hb2).mono hz)⟩
                | false =>
                  rw [htc] at hTB J
                  have HBE2 : Hid (befTo ws (ord.take j) bn (a + 1) = true) := by show _ = true; rw [befTo_succ, HBE.out, hTB]; rfl
                  clear hTB htc
                  go_upto_region 13 with (fail)
                  refine wp_region_ext (by kernel_rfl) (by kernel_rfl) ?_
                  repeat (go_big_quiet_step ((go_at_call 44; exact ext_call (J.out _))))
                  refine wpQuiet_nil ?_
                  intro _ hw'
                  obtain ⟨⟨w2, hb2⟩, rfl⟩ := hw'
                  clear hxc
                  go_wp2
                  go_roundw
                  case rel => exact ⟨a + 1, by omega, by go_num, HBE2.out, bvia hbq hb2⟩
                  case measure => first | (simp [intOf]; done) | (simp [intOf]; omega)
              · obtain rfl : a = bn := by omega
                have HS : Hid (ordTo ws ord (j + 1) = true) := by
                  have hcn : ((a : Nat) : Int).toNat = a := by simp
                  have hD : ord.getD j 0 = (a : Int) := by rw [List.getD_eq_getElem?_getD, HBJ.out]; rfl
                  show _ = true
                  rw [ordTo_succ, HTO.out]
                  unfold ordI
                  rw [hD, hcn, HBE.out, HIN.out, decide_eq_true (show (0 : Int) ≤ (a : Int) by omega), decide_eq_true (show (a : Int) < (ws.length : Int) by rw [HL.out]; omega)]
                  rfl
                have g1 : wq.cell? ⟨w.heap.size + 1, a, none⟩ = some (.bool ((ord.take j).contains (a : Int))) := (HGq.out.cell a).trans (isL_get hbn)
                have f1 := HGq.out.free a
                have qq := HGq.out.lt
                have hne : w.heap.size ≠ w.heap.size + 1 := by omega
                go_wp2
                go_roundw
                case rel =>
                  have h := HGq.out.set a (.bool true)
                  rw [isL_set HBJ.out] at h
                  exact ⟨j + 1, by omega, by go_num, HS.out, Lib.hid h, Lib.hid (HCq.out.far hne _ _), Bq.setCell (by simp) _⟩
                case measure => first | (simp [intOf]; done) | (simp [intOf]; omega)
    · obtain rfl : k = j := by omega
      go_wp2
      go_ret
      exact ⟨ret_bool (by rw [HR.out, HTO.out]), hb⟩
end Go.Proofs.Ytpljaoagiaijiaa
/-
  Contract of cloth.Linked at a valid cloth, given what slices.DeleteFunc says of the empty sets.
-/
namespace Go.Proofs.Ytpljaoagiaijiaa
open Go.RowKit
theorem infoIs : (Try.prog.info? 35).map (fun i => (i.zero, i.size, i.bytes)) = some (some (.slice none 0 0), 1, 24) := by kernel_rfl
theorem mkIs (n : Nat) (_ : n ≤ 1000) (W : World) : (Instr.makeSlice 66 (.int .i64 (n : Int)) (.int .i64 (n : Int))).run Try.prog W = .ok (.slice (some ⟨W.heap.size, 0, none⟩) n n) (W.alloc (.cells (madeCells #[.slice none 0 0] n) 35)) := by
  obtain ⟨i, hi, hz, hs, hb⟩ := info_parts infoIs
  have h := run_make (P := Try.prog) W 66 35 i (.slice none 0 0) Try.underlying66 hi hz .i64 .i64 (n : Int) (n : Int) (by omega) (Int.le_refl _) (by rw [hb]; omega) (by omega)
  rw [hs] at h
  simpa [Value.cells] using h
/-- a slice of slices of ints, read as lists -/
def RdRs (w : World) (B : Nat) (A : Option Addr) (rows : List (List Int)) : Prop :=
  ∀ (k : Nat) (r : List Int), rows[k]? = some r → ∃ b o, A = some ⟨b, o, none⟩ ∧ b < B ∧ ∃ X nx cx, w.cell? ⟨b, o + k, none⟩ = some (.slice X nx cx) ∧ RdI w w.heap.size X r ∧ r.length = nx ∧ nx ≤ cx ∧ cx ≤ 9223372036854775807
def neV : Value → Bool
  | .slice _ n _ => n != 0
  | _ => false
/-- what slices.DeleteFunc says of the empty sets -/
def DelSays : Prop := ∀ (g T : Nat) (Vs : List Value) (W : World), Has W g 35 Vs → Vs.length = T → T ≤ 48 → (∀ v ∈ Vs, ∃ A n c, v = .slice A n c ∧ n ≤ c ∧ c ≤ 9223372036854775807) →
  Calls Try.prog 55 #[.slice (some ⟨g, 0, none⟩) T T, .func (.func 56) #[] #[]] W fun e w' => ∃ rest, e = .returned (.slice (some ⟨g, 0, none⟩) (Vs.filter neV).length T) ∧ Has w' g 35 (Vs.filter neV ++ rest) ∧ But g W w'
theorem filter_pair {Vs : List Value} {rows : List (List Int)} (hl : Vs.length = rows.length) (h : ∀ (q : Nat) (v : Value) (r : List Int), Vs[q]? = some v → rows[q]? = some r → neV v = !r.isEmpty) :
    (Vs.filter neV).length = (rows.filter (fun l => !l.isEmpty)).length ∧ ∀ (k : Nat) (r : List Int), (rows.filter (fun l => !l.isEmpty))[k]? = some r → ∃ (q : Nat) (v : Value), rows[q]? = some r ∧ Vs[q]? = some v ∧ (Vs.filter neV)[k]? = some v := by
  induction Vs generalizing rows with
  | nil =>
    obtain rfl : rows = [] := List.length_eq_zero_iff.1 hl.symm
    exact ⟨rfl, fun k r hr => by simp at hr⟩
  | cons v Vs ih =>
    cases rows with
    | nil => simp at hl
    | cons r0 rows =>
      obtain ⟨i1, i2⟩ := ih (rows := rows) (by simpa using hl) (fun q u s hu hs => h (q + 1) u s (by simpa using hu) (by simpa using hs))
      have h0 := h 0 v r0 rfl rfl
      cases hn : neV v with
      | false =>
        rw [hn] at h0
        rw [List.filter_cons_of_neg (by rw [hn]; decide), List.filter_cons_of_neg (by rw [← h0]; decide)]
        refine ⟨i1, fun k r hr => ?_⟩
        obtain ⟨q, u, e1, e2, e3⟩ := i2 k r hr
        exact ⟨q + 1, u, by simpa using e1, by simpa using e2, e3⟩
      | true =>
        rw [hn] at h0
        rw [List.filter_cons_of_pos hn, List.filter_cons_of_pos (p := fun l : List Int => !l.isEmpty) (show (!r0.isEmpty) = true from h0.symm)]
        refine ⟨by rw [List.length_cons, List.length_cons, i1], fun k r hr => ?_⟩
        cases k with
        | zero => exact ⟨0, v, by simpa using hr, rfl, rfl⟩
        | succ k =>
          obtain ⟨q, u, e1, e2, e3⟩ := i2 k r (by simpa using hr)
          exact ⟨q + 1, u, by simpa using e1, by simpa using e2, by simpa using e3⟩
theorem RowsSt.ne {W : World} {g base : Nat} {Vs : List Value} {rows : List (List Int)} (h : RowsSt W g base Vs rows) : ∀ (q : Nat) (v : Value) (r : List Int), Vs[q]? = some v → rows[q]? = some r → neV v = !r.isEmpty := fun q v r hv hr => by
  have ho := h.own q v r hv hr
  obtain ⟨X, cx, rfl⟩ := own_form ho
  cases r with
  | nil => rfl
  | cons a r => simp [neV]
theorem filter_len {W : World} {g base : Nat} {Vs : List Value} {rows : List (List Int)} (h : RowsSt W g base Vs rows) : (Vs.filter neV).length = (rows.filter (fun l => !l.isEmpty)).length := (filter_pair h.len h.ne).1
theorem RowsSt.kept {W W' : World} {g base : Nat} {Vs rest : List Value} {rows : List (List Int)} (h : RowsSt W g base Vs rows) (hh : Has W' g 35 (Vs.filter neV ++ rest)) (hb : But g W W') : RdRs W' W'.heap.size (some ⟨g, 0, none⟩) (rows.filter (fun l => !l.isEmpty)) := fun k r hr => by
  obtain ⟨q, v, e1, e2, e3⟩ := (filter_pair h.len h.ne).2 k r hr
  have ho := h.own q v r e2 e1
  obtain ⟨X, cx, rfl⟩ := own_form ho
  have ho2 := hb.own ho (fun e => by have := (ho.lt g e).1; have := h.lo; omega)
  have hc := own_caps ho2
  refine ⟨g, 0, rfl, hh.lt, X, r.length, cx, ?_, own_rd1 ho2, rfl, hc.1, hc.2⟩
  rw [Nat.zero_add, hh.cell, List.getElem?_append_left (lt_of_get e3)]
  exact e3
set_option maxRecDepth 100000 in
set_option maxHeartbeats 8000000 in
theorem linked30 (T : Nat) (A B : Option Addr) (n c m d : Nat) (xs ps : List Q4) (w : World) (hn : n ≤ 9223372036854775807) (hm : m ≤ 9223372036854775807) (hx : RdQ w w.heap.size A xs) (hp : RdQ w w.heap.size B ps) (hl : xs.length = n) (hl' : ps.length = m) (hE : ckE (T : Int) xs ps = 0) (hdel0 : DelSays) :
    Calls Try.prog 30 #[vCloth (T : Int) A n c B m d] w fun e w' => ∃ A' n' c', e = .returned (.tuple #[.slice A' n' c', .int .i64 0]) ∧ RdRs w' w'.heap.size A' (setsR xs T) ∧ (setsR xs T).length = n' ∧ Below w.heap.size w w' := by
  have hdel := Lib.hid hdel0
  clear hdel0
  have C1 := Lib.hid (fun (W : World) (hb : Below w.heap.size w W) => check42 (T : Int) A B n c m d xs ps W hn hm (hx.up hb) (hp.up hb) hl hl' (by omega))
  rw [hE] at C1
  have K0 : Has (w.alloc (.cells #[.int .i64 (T : Int), .slice A n c, .slice B m d] 30)) w.heap.size 30 [.int .i64 (T : Int), .slice A n c, .slice B m d] := Has.new rfl
  obtain ⟨ht2, ht48, hn2, _⟩ := ckE_ok hE
  have hT : T ≤ 48 := by omega
  have hn3 : n ≤ 20000 := by omega
  have HCR : Hid (∀ x ∈ xs, (0 ≤ x.c ∧ x.c < (T : Int)) ∧ 0 ≤ x.d ∧ x.d < (T : Int)) := fun x hx => (cross_ok hE x hx).1
  have HX := Lib.hid hx
  have HL := Lib.hid hl
  clear hx hp hl hl' hE ht48 hn2
  go_enter Try.func30, Try.ntmps30
  go_wp2_with fail
  refine (C1.out _ (by go_grown)).mono ?_
  rintro e1 w1 ⟨rfl, hb1⟩
  have B1 : Below w.heap.size w w1 := bvia (show Below w.heap.size w _ by go_grown) hb1
  have HB := Lib.hid (K0.below hb1 K0.lt)
  clear K0 hb1 C1
  go_wp2_with fail
  refine (begun57 _).mono ?_
  rintro e2 w2 ⟨rfl, hb2⟩
  have hlen : ((lineL 48).map vInt).length = 48 := by simp [lineL_len]
  have hinfo : (Try.prog.info? 93).map (·.size) = some 48 := by kernel_rfl
  have B2 := bvia B1 hb2
  have HB2 := HB.out.below hb2 HB.out.lt
  go_wp2_with (first | (refine wpList_store_has rfl 93 (.tmp 5) (.tmp 18) rfl w2.heap.size ((lineL 48).map vInt) rfl rfl 93 _ (Has.new rfl) (by rw [hlen, hinfo]) (by rw [hlen]; rfl) (by simp [lineL]; intros; rfl) ?_) | fail)
  intro w3 hG3 hBut
  have hb3 : Below w2.heap.size w2 w3 := ((Below.refl _ w2).alloc (Nat.le_refl _) _).trans (hBut.below (Nat.le_refl _) (by simp))
  have B3 := bvia B2 hb3
  have HB3 := Lib.hid (HB2.below hb3 HB2.lt)
  obtain ⟨gs, hgs⟩ : ∃ gs, gs = w2.heap.size := ⟨_, rfl⟩
  have hws : w.heap.size < gs := by rw [hgs]; exact HB2.lt
  rw [← hgs] at hG3 ⊢
  have HG3 := Lib.hid hG3
  have a1 : w3.cell? ⟨w.heap.size, 1, none⟩ = some (.slice A n c) := HB3.out.cell 1
  have q := HB3.out.lt
  clear hG3 hBut hb3 hgs hlen hinfo HB2 B2 hb2 HB B1
  go_wp2
  go_loopw [23] (fun i wr => ∃ (j : Nat) (s : List Int), j ≤ n ∧ i = .int .i64 (j : Int) ∧ JoinOk xs T j s ∧ Hid (Has wr gs 93 (s.map vInt)) ∧ Hid (Has wr w.heap.size 30 [.int .i64 (T : Int), .slice A n c, .slice B m d]) ∧ Below w.heap.size w wr) (fun i _ => n - (intOf i).toNat)
  case atStart => exact ⟨0, lineL 48, Nat.zero_le _, rfl, join_start xs hT, HG3, HB3, B3⟩
  case round =>
    clear HG3 HB3 B3 a1 q
    obtain ⟨j, s, hj, rfl, hJ, HG, HC, hb⟩ := hrel
    obtain ⟨wo, rfl⟩ : ∃ wo : World, wo = wr := ⟨_, rfl⟩
    have HJ := Lib.hid hJ
    clear hJ
    by_cases hlt : j < n
    · obtain ⟨x, hx⟩ := get_of_lt (l := xs) (k := j) (by rw [HL.out]; exact hlt)
      obtain ⟨⟨xc0, xc1⟩, xd0, xd1⟩ := HCR.out x (mem_of_get hx)
      obtain ⟨cn, hc⟩ := Int.eq_ofNat_of_zero_le xc0
      obtain ⟨dn, hd⟩ := Int.eq_ofNat_of_zero_le xd0
      have hcT : cn < T := by omega
      have hdT : dn < T := by omega
      have hcn : x.c.toNat = cn := by rw [hc]; simp
      have hdn : x.d.toNat = dn := by rw [hd]; simp
      have hNx := join_next HJ.out hx ⟨by rw [hcn]; exact hcT, by rw [hdn]; exact hdT⟩
      rw [hcn, hdn] at hNx
      obtain ⟨ra, hra⟩ : ∃ ra, ra = repTo xs j cn := ⟨_, rfl⟩
      obtain ⟨rb, hrb⟩ : ∃ rb, rb = repTo xs j dn := ⟨_, rfl⟩
      rw [← hra, ← hrb] at hNx
      have hraT : ra < T := by have := repTo_le xs j cn; omega
      have hrbT : rb < T := by have := repTo_le xs j dn; omega
      have HRA : Hid (rt s cn = ra) := by show rt s cn = ra; rw [hra]; exact HJ.out.2.2 cn hcT
      have HRB : Hid (rt s dn = rb) := by show rt s dn = rb; rw [hrb]; exact HJ.out.2.2 dn hdT
      have HNx := Lib.hid hNx
      obtain ⟨ba, o, rfl, hba, c0, c1, c2, c3⟩ := (HX.out.up hb) j x hx
      rw [hc] at c2
      rw [hd] at c3
      have a1 : wo.cell? ⟨w.heap.size, 1, none⟩ = some (.slice (some ⟨ba, o, none⟩) n c) := HC.out.cell 1
      have q := HC.out.lt
      have jn : (j : Int) < (n : Int) := by omega
      obtain ⟨w5, hw5⟩ : ∃ w5, w5 = wo.alloc (.cells #[.int .i64 x.a, .int .i64 x.b, .int .i64 (cn : Int), .int .i64 (dn : Int)] 70) := ⟨_, rfl⟩
      have hb5 : Below wo.heap.size wo w5 := by rw [hw5]; go_grown
      have K5 : Has w5 wo.heap.size 70 [.int .i64 x.a, .int .i64 x.b, .int .i64 (cn : Int), .int .i64 (dn : Int)] := by rw [hw5]; exact Has.new rfl
      go_upto_region 9 with (fail)
      rw [← hw5]
      obtain ⟨gx, hgx⟩ : ∃ g, g = wo.heap.size := ⟨_, rfl⟩
      rw [← hgx] at K5 ⊢
      have HG5 := Lib.hid (HG.out.below hb5 HG.out.lt)
      have HC5 := Lib.hid (HC.out.below hb5 HC.out.lt)
      have B5 := bvia hb hb5
      have k2 : w5.cell? ⟨gx, 2, none⟩ = some (.int .i64 (cn : Int)) := K5.cell 2
      have k3 : w5.cell? ⟨gx, 3, none⟩ = some (.int .i64 (dn : Int)) := K5.cell 3
      have qx := K5.lt
      have JC := Lib.hid (fun (y : Ext w5) (nn : Nat) (hnn : nn < T) => first54 gs T nn s y.out (HG5.out.below y.below HG5.out.lt) HJ.out.1 hT hnn)
      clear hx hNx hw5 hb5 hgx K5 c0 c1 c2 c3 a1 q HG HC hb hba hc hd hcn hdn hra hrb xc0 xc1 xd0 xd1
      have hxc := fun (x : Ext w5) => x.cell
      refine wp_region_ext (by kernel_rfl) (by kernel_rfl) ?_
      repeat (go_big_quiet_step ((go_at_call 54; exact ext_same (JC.out _ _ (by assumption)))))
      refine wpQuiet_nil ?_
      intro w6 hw'
      have hb6 := ext_below hw'
      clear hw' hxc k2 k3 qx JC
      rw [HRA.out, HRB.out]
      have HG6 := Lib.hid (HG5.out.below hb6 HG5.out.lt)
      have HC6 := Lib.hid (HC5.out.below hb6 HC5.out.lt)
      have B6 := bvia B5 hb6
      clear hb6 HG5 HC5 B5
      obtain ⟨mx, hmx⟩ : ∃ mx, mx = max ra rb := ⟨_, rfl⟩
      obtain ⟨mn, hmn⟩ : ∃ mn, mn = min ra rb := ⟨_, rfl⟩
      rw [← hmx, ← hmn] at HNx
      have hmxT : mx < 48 := by omega
      obtain ⟨vm, hvm⟩ := get_of_lt (l := s) (k := mx) (by rw [HJ.out.2.1]; exact hmxT)
      have g0 : w6.cell? ⟨gs, mx, none⟩ = some (.int .i64 vm) := (HG6.out.cell mx).trans (by rw [List.getElem?_map, hvm]; rfl)
      have f0 := HG6.out.free mx
      have qg := HG6.out.lt
      have mxi : (mx : Int) < 48 := by omega
      have HFIN : Hid (∀ W, W = w6.setCell ⟨gs, mx, none⟩ (.int .i64 (mn : Int)) → Has W gs 93 ((s.set mx (mn : Int)).map vInt) ∧ Has W w.heap.size 30 [.int .i64 (T : Int), .slice (some ⟨ba, o, none⟩) n c, .slice B m d] ∧ Below w.heap.size w W) := fun W hW => by
        subst hW
        refine ⟨?_, HC6.out.far (by omega) _ _, B6.setCell (show w.heap.size ≤ gs by omega) _⟩
        rw [List.map_set]
        exact HG6.out.set mx (vInt (mn : Int))
      clear hvm
      rcases Nat.lt_trichotomy ra rb with hab | hab | hab
      · obtain rfl : mx = rb := by omega
        obtain rfl : mn = ra := by omega
        have n1 : (mn : Int) < (mx : Int) := by omega
        have n2 : ¬ (mx : Int) < (mn : Int) := by omega
        have n3 : ¬ mx < mn := by omega
        clear hmx hmn
        go_wp2
        go_roundw
        case rel =>
          obtain ⟨h1, h2, h3⟩ := HFIN.out _ rfl
          exact ⟨j + 1, s.set mx (mn : Int), by omega, by go_num, HNx.out, Lib.hid h1, Lib.hid h2, h3⟩
        case measure => first | (simp [intOf]; done) | (simp [intOf]; omega)
      · subst hab
        obtain rfl : mx = ra := by omega
        obtain rfl : mn = mx := by omega
        clear hmx hmn
        go_wp2
        go_roundw
        case rel =>
          obtain ⟨h1, h2, h3⟩ := HFIN.out _ rfl
          exact ⟨j + 1, _, by omega, by go_num, HNx.out, Lib.hid h1, Lib.hid h2, h3⟩
        case measure => first | (simp [intOf]; done) | (simp [intOf]; omega)
      · obtain rfl : mx = ra := by omega
        obtain rfl : mn = rb := by omega
        have n1 : (mn : Int) < (mx : Int) := by omega
        have n2 : ¬ (mx : Int) < (mn : Int) := by omega
        have n3 : ¬ mx < mn := by omega
        clear hmx hmn
        go_wp2
        go_roundw
        case rel =>
          obtain ⟨h1, h2, h3⟩ := HFIN.out _ rfl
          exact ⟨j + 1, s.set mx (mn : Int), by omega, by go_num, HNx.out, Lib.hid h1, Lib.hid h2, h3⟩
        case measure => first | (simp [intOf]; done) | (simp [intOf]; omega)
    · obtain rfl : n = j := by omega
      have hRT : Hid (∀ k, k < T → rt s k = repTo xs xs.length k) := fun k hk => by rw [HL.out]; exact HJ.out.2.2 k hk
      have a0 : wo.cell? ⟨w.heap.size, 0, none⟩ = some (.int .i64 (T : Int)) := HC.out.cell 0
      have q := HC.out.lt
      have hmk := mkIs T (by omega)
      obtain ⟨wa, hwa⟩ : ∃ wa, wa = wo.alloc (.cells (madeCells #[.slice none 0 0] T) 35) := ⟨_, rfl⟩
      have hba : Below wo.heap.size wo wa := by rw [hwa]; go_grown
      have Ka : Has wa wo.heap.size 35 (List.replicate T (.slice none 0 0)) := by rw [hwa]; exact Has.new (by rw [made_rep])
      go_upto_region 13 with (fail)
      rw [← hwa]
      obtain ⟨ga, hga⟩ : ∃ g, g = wo.heap.size := ⟨_, rfl⟩
      have hgs2 : gs < ga := by rw [hga]; exact HG.out.lt
      rw [← hga] at Ka ⊢
      have HGA : Hid (w.heap.size ≤ ga) := by show w.heap.size ≤ ga; omega
      have HG0 := Lib.hid (HG.out.below hba HG.out.lt)
      have HC0 := Lib.hid (HC.out.below hba HC.out.lt)
      have HR0 : Hid (RowsSt wa ga (ga + 1) (List.replicate T (.slice none 0 0)) (grpTo xs T 0)) := by
        show RowsSt _ _ _ _ _
        rw [grpTo_zero]
        exact RowsSt.start Ka (Nat.lt_succ_self _)
      have B0 := bvia hb hba
      have PJ := Lib.hid HJ.out.1
      clear hmk hwa hga Ka a0 HG HC hb hba HJ
      have a0 : wa.cell? ⟨w.heap.size, 0, none⟩ = some (.int .i64 (T : Int)) := HC0.out.cell 0
      have q2 := HC0.out.lt
      go_wp2
      go_loopw [48] (fun i wr => ∃ (k : Nat) (Vs : List Value), k ≤ T ∧ i = .int .i64 (k : Int) ∧ Hid (RowsSt wr ga (ga + 1) Vs (grpTo xs T k)) ∧ Hid (Has wr gs 93 (s.map vInt)) ∧ Below w.heap.size w wr) (fun i _ => T - (intOf i).toNat)
      case atStart => exact ⟨0, _, Nat.zero_le _, rfl, HR0, HG0, B0⟩
      case round =>
        clear HR0 HG0 B0 a0 q2 HC0
        obtain ⟨k, Vs, hk, rfl, HR, HG, hb⟩ := hrel
        obtain ⟨wo, rfl⟩ : ∃ wo : World, wo = wr := ⟨_, rfl⟩
        by_cases hkT : k < T
        · have kT : (k : Int) < (T : Int) := by omega
          have J := Lib.hid (fun (W : World) (hW : Below wo.heap.size wo W) => first54 gs T k s W (HG.out.below hW HG.out.lt) PJ.out hT hkT)
          rw [hRT.out k hkT] at J
          obtain ⟨rk, hrk⟩ : ∃ rk, rk = repTo xs xs.length k := ⟨_, rfl⟩
          rw [← hrk] at J
          have hrT : rk < T := by have := repTo_le xs xs.length k; omega
          obtain ⟨r, hr⟩ := get_of_lt (l := grpTo xs T k) (k := rk) (by unfold grpTo; simp; exact hrT)
          obtain ⟨v, hv⟩ := get_of_lt (l := Vs) (k := rk) (by rw [HR.out.len]; exact lt_of_get hr)
          have HGS := Lib.hid (grpTo_succ hrk.symm hrT hr)
          have hown := HR.out.own rk v r hv hr
          obtain ⟨X, cx, rfl⟩ := own_form hown
          have hrl : r.length ≤ 48 := by
            rw [grpTo_get hrT] at hr
            injection hr with hr
            rw [← hr, List.length_map]
            exact Nat.le_trans (List.length_filter_le _ _) (by rw [List.length_range]; omega)
          have g0 : wo.cell? ⟨ga, rk, none⟩ = some (.slice X r.length cx) := (HR.out.has.cell rk).trans hv
          have qg := HR.out.has.lt
          have rkT : (rk : Int) < (T : Int) := by omega
          have HOW := Lib.hid (hown.alloc (.cells #[.int .i64 (k : Int)] 3))
          have HRA2 := Lib.hid (HR.out.below ((Below.refl _ wo).alloc (Nat.le_refl _) (.cells #[.int .i64 (k : Int)] 3)))
          have hsz := HR.out.has.lt
          have HV := Lib.hid hv
          have HRR := Lib.hid hr
          clear hv hr hown hrk
          go_wp2_with (first
            | (go_at_call 54; refine (J.out _ (Below.refl _ _)).mono ?_; rintro e5 w5 ⟨rfl, rfl⟩)
            | (at_builtin; refine wpList_app rfl (.tmp 60) (.tmp 62) _ rfl (ga + 1) 3 (.int .i64 0) 1 8 Try.underlying35 infoInt rfl (by omega) (by omega) _ _ _ rfl HOW.out wo.heap.size [vInt (k : Int)] rfl rfl (news_new _ _ _) (one_int _ _) (by omega) (by simp; omega) ?_; intro gb cap1 w7 hg1 hown1 hgrow1 hor1; have HA7 : Has w7 ga _ Vs := HRA2.out.has.same (hgrow1.block ga HRA2.out.has.lt (fun e => by have := (HOW.out.lt ga e.symm).1; omega)); have z1 : w7.cell? ⟨ga, rk, none⟩ = some (.slice X r.length cx) := (HA7.cell rk).trans HV.out; have f1 := HA7.free rk; have q7 := HA7.lt)
            | fail)
          go_roundw
          case rel =>
            have hP := HRA2.out.pushed HV.out HRR.out hown1 hgrow1 (fun b hb' => by
              have hb2 : gb = b := by simpa [Value.ownBlock] using hb'
              subst hb2
              rcases hor1 with h | h
              · exact .inl h
              · exact .inr (Nat.le_of_eq h.symm))
            rw [← HGS.out] at hP
            have hgs3 : gs ≠ ga := by omega
            have hG7 := HG.out.alloc (.cells #[.int .i64 (k : Int)] 3)
            have hG8 : Has w7 gs _ _ := hG7.same (hgrow1.block gs hG7.lt (fun e => by have := (HOW.out.lt gs e.symm).1; omega))
            exact ⟨k + 1, _, by omega, by go_num, Lib.hid hP, Lib.hid (hG8.far hgs3 _ _), ((hb.alloc (by have := HG.out.lt; omega) _).grown hgrow1 (by simp; have := HG.out.lt; omega) (fun r hr => by have := (HOW.out.lt r hr).1; have := HGA.out; omega)).setCell HGA.out _⟩
          case measure => first | (simp [intOf]; done) | (simp [intOf]; omega)
        · obtain rfl : T = k := by omega
          have J := Lib.hid (hdel.out ga T Vs wo HR.out.has (by rw [HR.out.len]; unfold grpTo; simp) hT (fun v hv => by
            obtain ⟨q, hq, rfl⟩ := List.mem_iff_getElem.1 hv
            obtain ⟨r, hr⟩ := get_of_lt (l := grpTo xs T T) (k := q) (by rw [← HR.out.len]; exact hq)
            have ho := HR.out.own q _ r (List.getElem?_eq_getElem hq) hr
            obtain ⟨X, cx, hX⟩ := own_form ho
            exact ⟨X, _, cx, hX, (own_caps (hX ▸ ho)).1, (own_caps (hX ▸ ho)).2⟩))
          go_wp2_with fail
          refine J.out.mono ?_
          rintro e9 w9 ⟨rest, rfl, hH, hBut⟩
          have HRD := Lib.hid (RowsSt.kept HR.out hH hBut)
          have B9 := hb.trans (hBut.below HGA.out (by have := HG.out.lt; omega))
          clear J hH hBut
          go_wp2
          go_ret2
          refine ⟨some ⟨ga, 0, none⟩, _, T, rfl, ?_, ?_, B9⟩
          · rw [setsR_grp]; exact HRD.out
          · rw [setsR_grp]
            exact (filter_len HR.out).symm
end Go.Proofs.Ytpljaoagiaijiaa
/-
  Contract: slices.IndexFunc over slices of ints, with the program's own test for an empty one.
-/
namespace Go.Proofs.Ytpljaoagiaijiaa
open Go.RowKit
/-- a slice value -/
def isSl (v : Value) : Prop := ∃ A n c, v = .slice A n c ∧ n ≤ c ∧ c ≤ 9223372036854775807
theorem empty56 (A : Option Addr) (n c : Nat) (w : World) (hn : n ≤ 9223372036854775807) : Calls Try.prog 56 #[.slice A n c] w fun e w' => e = .returned (.bool (!neV (.slice A n c))) ∧ w = w' := by
  by_cases h : n = 0
  · subst h
    go_enter Try.func56, Try.ntmps56
    go_wp2
    go_ret
    exact ⟨ret_bool (by simp [neV]), rfl⟩
  · have d1 : ((n : Int) == 0) = false := by rw [beq_eq_false_iff_ne]; omega
    go_enter Try.func56, Try.ntmps56
    go_wp2
    go_ret
    exact ⟨ret_bool (by simp [neV, h]), rfl⟩
/-- where the first empty one is -/
def idxE (Vs : List Value) : Int := match Vs.findIdx? (fun v => !neV v) with | some i => (i : Int) | none => -1
set_option maxRecDepth 100000 in
set_option maxHeartbeats 1000000 in
theorem index69 (g T : Nat) (Vs : List Value) (W : World) (hG : Has W g 35 Vs) (hl : Vs.length = T) (hT : T ≤ 48) (hv : ∀ v ∈ Vs, isSl v) :
    Calls Try.prog 69 #[.slice (some ⟨g, 0, none⟩) T T, .func (.func 56) #[] #[]] W fun e w' => (e = .returned (.int .i64 (-1)) ∧ (∀ v ∈ Vs, neV v = true) ∨ ∃ i : Nat, i < T ∧ e = .returned (.int .i64 (i : Int)) ∧ (∀ (j : Nat) (v : Value), j < i → Vs[j]? = some v → neV v = true) ∧ ∃ v, Vs[i]? = some v ∧ neV v = false) ∧ W = w' := by
  have HG := Lib.hid hG
  have HV := Lib.hid hv
  have HL := Lib.hid hl
  have hg := hG.lt
  clear hG hv hl
  go_enter Try.func69, Try.ntmps69
  go_wp2
  go_loop [8] (fun i => ∃ k : Nat, k ≤ T ∧ i = .int .i64 (k : Int) ∧ Hid (∀ (j : Nat) (v : Value), j < k → Vs[j]? = some v → neV v = true)) (fun i => T - (intOf i).toNat)
  case atStart => exact ⟨0, Nat.zero_le _, rfl, Lib.hid (fun j v hj => absurd hj (by omega))⟩
  case round =>
    obtain ⟨k, hk, rfl, HN⟩ := hrel
    by_cases hlt : k < T
    · obtain ⟨v, hv⟩ := get_of_lt (l := Vs) (k := k) (by rw [HL.out]; exact hlt)
      obtain ⟨A, n, c, rfl, hnc, hc⟩ := HV.out v (mem_of_get hv)
      have c0 : W.cell? ⟨g, k, none⟩ = some (.slice A n c) := (HG.out.cell k).trans hv
      have kT : (k : Int) < (T : Int) := by omega
      have J := Lib.hid (empty56 A n c W (Nat.le_trans hnc hc))
      have HVV := Lib.hid hv
      cases hne : neV (.slice A n c) with
      | true =>
        rw [hne] at J
        have HNE := Lib.hid hne
        clear hv hne
        go_wp2_with fail
        refine J.out.mono ?_
        rintro e w1 ⟨rfl, rfl⟩
        go_wp2
        go_round
        case rel => exact ⟨k + 1, by omega, by go_num, Lib.hid (get_step HN.out HVV.out HNE.out)⟩
        case measure => first | (simp [intOf]; done) | (simp [intOf]; omega)
      | false =>
        rw [hne] at J
        have HNE := Lib.hid hne
        clear hv hne
        go_wp2_with fail
        refine J.out.mono ?_
        rintro e w1 ⟨rfl, rfl⟩
        go_wp2
        go_ret
        exact ⟨.inr ⟨k, hlt, rfl, HN.out, _, HVV.out, HNE.out⟩, rfl⟩
    · obtain rfl : T = k := by omega
      go_wp2
      go_ret
      exact ⟨.inl ⟨rfl, fun v hv => by
        obtain ⟨i, hi, rfl⟩ := List.mem_iff_getElem.1 hv
        exact HN.out i _ (by rw [← HL.out]; exact hi) (List.getElem?_eq_getElem hi)⟩, rfl⟩
end Go.Proofs.Ytpljaoagiaijiaa
/-
  Contract: slices.DeleteFunc over slices of ints, with the program's own test for an empty one.
-/
namespace Go.Proofs.Ytpljaoagiaijiaa
open Go.RowKit
theorem setCells_has {g : Nat} {t : TypeId} : ∀ (vs : List Value) (o : Nat) (w : World) (cs : List Value), Has w g t cs → ∃ cs', Has (w.setCells g o vs) g t cs' ∧ cs'.take o = cs.take o ∧ But g w (w.setCells g o vs)
  | [], o, w, cs, h => ⟨cs, h, rfl, But.refl _ _⟩
  | v :: vs, o, w, cs, h => by
    obtain ⟨cs', h1, h2, h3⟩ := setCells_has vs (o + 1) (w.setCell ⟨g, o, none⟩ v) (cs.set o v) (h.set o v)
    refine ⟨cs', h1, ?_, (But.set g w o v).trans h3⟩
    have e := congrArg (List.take o) h2
    rw [List.take_take, List.take_take, Nat.min_eq_left (Nat.le_succ o)] at e
    rw [e, List.take_set_of_le (Nat.le_refl o)]
theorem filt_succ {Vs : List Value} {j : Nat} {v : Value} (h : Vs[j]? = some v) : (Vs.take (j + 1)).filter neV = (Vs.take j).filter neV ++ if neV v = true then [v] else [] := by
  rw [List.take_add_one, h, List.filter_append]
  congr 1
  cases hn : neV v <;> simp [hn]
set_option maxRecDepth 100000 in
set_option maxHeartbeats 4000000 in
theorem delSays : DelSays := by
  intro g T Vs W hG hl hT hv
  have J := Lib.hid (index69 g T Vs W hG hl hT hv)
  have HG := Lib.hid hG
  have HV := Lib.hid hv
  have HL := Lib.hid hl
  have hgW := hG.lt
  clear hG hv hl
  go_enter Try.func55, Try.ntmps55
  go_wp2_with fail
  refine J.out.mono ?_
  rintro e w1 ⟨⟨rfl, hall⟩ | ⟨i0, hi0, rfl, hbef, v0, hv0, hne0⟩, rfl⟩
  · have hF : Hid (Vs.filter neV = Vs) := List.filter_eq_self.2 hall
    clear hall J
    go_wp2
    go_ret
    exact ⟨[], by rw [hF.out, HL.out]; rfl, by rw [hF.out, List.append_nil]; exact HG.out, But.refl _ _⟩
  · have hst : Hid ((Vs.take (i0 + 1)).filter neV = Vs.take i0) := by
      show _ = _
      rw [filt_succ hv0, hne0]
      have : (Vs.take i0).filter neV = Vs.take i0 := List.filter_eq_self.2 (fun v hv => by
        obtain ⟨q, hq, rfl⟩ := List.mem_iff_getElem.1 hv
        have hq' : q < i0 := by rw [List.length_take] at hq; omega
        exact hbef q _ hq' (by rw [List.getElem_take]; exact List.getElem?_eq_getElem _))
      rw [this]; simp
    have hm : ((i0 : Int) == -1) = false := by rw [beq_eq_false_iff_ne]; omega
    clear hbef hv0 hne0 J
    go_wp2
    go_loopw [5, 6] (fun x y wr => ∃ (j i : Nat) (cs : List Value), j ≤ T ∧ i < j ∧ x = .int .i64 (i : Int) ∧ y = .int .i64 (j : Int) ∧ Hid (Has wr g 35 cs) ∧ Hid (cs.length = T ∧ cs.take i = (Vs.take j).filter neV ∧ ∀ q, j ≤ q → cs[q]? = Vs[q]?) ∧ Hid (But g W wr)) (fun _ y _ => T - (intOf y).toNat)
    case atStart => exact ⟨i0 + 1, i0, Vs, by omega, by omega, rfl, by go_num, HG, Lib.hid ⟨HL.out, hst.out.symm, fun _ _ => rfl⟩, Lib.hid (But.refl _ _)⟩
    case round =>
      clear hst
      obtain ⟨j, i, cs, hj, hij, rfl, rfl, HC, HI, HB⟩ := hrel
      obtain ⟨wo, rfl⟩ : ∃ wo : World, wo = wr := ⟨_, rfl⟩
      have qg := HC.out.lt
      by_cases hlt : j < T
      · obtain ⟨v, hv⟩ := get_of_lt (l := Vs) (k := j) (by rw [HL.out]; exact hlt)
        obtain ⟨A, n, c, rfl, hnc, hc⟩ := HV.out v (mem_of_get hv)
        have c0 : wo.cell? ⟨g, j, none⟩ = some (.slice A n c) := (HC.out.cell j).trans ((HI.out.2.2 j (Nat.le_refl _)).trans hv)
        have HFS := Lib.hid (filt_succ hv)
        have HVV := Lib.hid hv
        have jT : (j : Int) < (T : Int) := by omega
        have iT : (i : Int) < (T : Int) := by omega
        have iT' : i < T := by omega
        obtain ⟨u, hu⟩ := get_of_lt (l := cs) (k := i) (by rw [HI.out.1]; exact iT')
        have g0 : wo.cell? ⟨g, i, none⟩ = some u := (HC.out.cell i).trans hu
        have f0 := HC.out.free i
        have E := Lib.hid (empty56 A n c wo (Nat.le_trans hnc hc))
        clear hu
        cases hne : neV (.slice A n c) with
        | true =>
          rw [hne] at E
          have HNE := Lib.hid hne
          clear hv hne
          go_wp2_with fail
          refine E.out.mono ?_
          rintro e2 w2 ⟨rfl, rfl⟩
          go_wp2
          go_roundw
          case rel =>
            refine ⟨j + 1, i + 1, cs.set i (.slice A n c), by omega, by omega, by go_num, by go_num, Lib.hid (HC.out.set i _), Lib.hid ⟨by rw [List.length_set]; exact HI.out.1, ?_, fun q hq => ?_⟩, Lib.hid (HB.out.trans (But.set g _ i _))⟩
            · rw [HFS.out, HNE.out, if_pos rfl, ← HI.out.2.1, List.take_add_one, List.take_set_of_le (Nat.le_refl i), List.getElem?_set_self (by rw [HI.out.1]; exact iT')]
              rfl
            · rw [List.getElem?_set_ne (by omega)]
              exact HI.out.2.2 q (by omega)
          case measure => first | (simp [intOf]; done) | (simp [intOf]; omega)
        | false =>
          rw [hne] at E
          have HNE := Lib.hid hne
          clear hv hne
          go_wp2_with fail
          refine E.out.mono ?_
          rintro e2 w2 ⟨rfl, rfl⟩
          go_wp2
          go_roundw
          case rel =>
            refine ⟨j + 1, i, cs, by omega, by omega, rfl, by go_num, HC, Lib.hid ⟨HI.out.1, ?_, fun q hq => HI.out.2.2 q (by omega)⟩, HB⟩
            rw [HFS.out, HNE.out, if_neg (by decide), List.append_nil]
            exact HI.out.2.1
          case measure => first | (simp [intOf]; done) | (simp [intOf]; omega)
      · obtain rfl : T = j := by omega
        have hlen : Hid ((Vs.filter neV).length = i ∧ cs.take i = Vs.filter neV) := by
          obtain ⟨h1, h2, _⟩ := HI.out
          have hT' : Vs.take T = Vs := List.take_of_length_le (by rw [HL.out]; exact Nat.le_refl _)
          rw [hT'] at h2
          refine ⟨?_, h2⟩
          rw [← h2, List.length_take, h1]; omega
        obtain ⟨cs', s1, s2, s3⟩ := setCells_has (List.replicate (T - i) (.slice none 0 0)) i wo cs HC.out
        have hcl : ∀ ty c', (Builtin.clear_ #[66] ty #[.slice (some ⟨g, i, none⟩) (T - i) c']).run Try.prog wo = .ok (.tuple #[]) (wo.setCells g i (List.replicate (T - i) (.slice none 0 0))) := fun ty c' =>
          Lib.run_clear_slice wo 66 35 ty (.slice none 0 0) Try.underlying66 (fun w => by kernel_rfl) rfl rfl g i (T - i) c' (by omega) (fun q hq => by
            obtain ⟨u, hu⟩ := get_of_lt (l := cs) (k := i + q) (by rw [HI.out.1]; omega)
            rw [HC.out.cell, hu]; rfl) (fun q _ => HC.out.free _)
        have HS1 := Lib.hid s1
        have HS2 := Lib.hid s2
        have HS3 := Lib.hid s3
        have iT : (i : Int) ≤ (T : Int) := by omega
        have iT2 : i ≤ T := by omega
        have i00 : (0 : Int) ≤ (i : Int) := by omega
        clear s1 s2 s3
        go_wp2
        go_ret
        refine ⟨cs'.drop i, by rw [hlen.out.1]; first | rfl | simp, ?_, HB.out.trans HS3.out⟩
        rw [← hlen.out.2, ← HS2.out, List.take_append_drop]
        exact HS1.out
end Go.Proofs.Ytpljaoagiaijiaa
