/-
  Contracts of torchonref04: Touch, Order (of a valid sheet).
-/
import Derived.Test.YtpljaoagiaijiaaAno
import Derived.Test.Ytpljaoagiaijiaa3c
import Derived.Laws.MakeOwn
namespace Go.Proofs.Ytpljaoagiaijiaa
open Go.RowKit
theorem touch04 (k1 a1 k2 a2 : Int) (s1 s2 : ByteArray) (w : World) (h1 : -1000 ≤ a1) (h2 : a1 ≤ 1000) (h3 : -1000 ≤ a2) (h4 : a2 ≤ 1000) :
    Calls Try.prog 44 #[.agg #[.int .i64 k1, .int .i64 a1, .string s1], .agg #[.int .i64 k2, .int .i64 a2, .string s2]] w fun e w' => e = .returned (.bool (touch a1 a2)) ∧ Below w.heap.size w w' := by
  go_enter Try.func44, Try.ntmps44
  go_wp2
  all_goals go_ret
  all_goals exact ⟨ret_bool (by simp [touch]; try omega), by go_grown⟩
theorem infoBl : (Try.prog.info? 4).map (fun i => (i.zero, i.size, i.bytes)) = some (some (.bool false), 1, 1) := by kernel_rfl
theorem mkB (n : Nat) (_ : n ≤ 1000) (W : World) : (Instr.makeSlice 79 (.int .i64 (n : Int)) (.int .i64 (n : Int))).run Try.prog W = .ok (.slice (some ⟨W.heap.size, 0, none⟩) n n) (W.alloc (.cells (madeCells #[.bool false] n) 4)) := by
  obtain ⟨i, hi, hz, hs, hb⟩ := info_parts infoBl
  have h := run_make (P := Try.prog) W 79 4 i (.bool false) Try.underlying79 hi hz .i64 .i64 (n : Int) (n : Int) (by omega) (Int.le_refl _) (by rw [hb]; omega) (by omega)
  rw [hs] at h
  simpa [Value.cells] using h
theorem made_rep (z : Value) (n : Nat) : madeCells #[z] n = (List.replicate n z).toArray := by
  apply Array.ext'
  rw [toList_madeCells_one]
/-- which numbers stand among the first j -/
def isL (H : List Int) (k j : Nat) : List Value := (List.range k).map fun (T : Nat) => .bool ((H.take j).contains (T : Int))
theorem isL_get {H : List Int} {k j T : Nat} (h : T < k) : (isL H k j)[T]? = some (.bool ((H.take j).contains (T : Int))) := by simp [isL, h]
theorem isL_zero (H : List Int) (k : Nat) : isL H k 0 = List.replicate k (.bool false) := by
  apply List.ext_getElem?
  intro i
  rw [List.getElem?_replicate]
  by_cases h : i < k
  · rw [isL_get h]; simp [h]
  · have : (isL H k 0)[i]? = none := by rw [List.getElem?_eq_none]; simp [isL]; omega
    rw [this]; simp [h]
theorem isL_set {H : List Int} {k j T : Nat} (h : H[j]? = some (T : Int)) : (isL H k j).set T (.bool true) = isL H k (j + 1) := by
  apply List.ext_getElem?
  intro i
  have hl : ∀ j, (isL H k j).length = k := fun j => by simp [isL]
  rw [List.getElem?_set, hl]
  by_cases hi : i < k
  · rw [isL_get hi, isL_get hi, List.take_add_one, h]
    by_cases hT : T = i
    · subst hT; simp [hi]
    · rw [if_neg hT]
      congr 2
      rw [Bool.eq_iff_iff]
      simp
      omega
  · have e1 : (isL H k j)[i]? = none := by rw [List.getElem?_eq_none]; rw [hl]; omega
    have e2 : (isL H k (j + 1))[i]? = none := by rw [List.getElem?_eq_none]; rw [hl]; omega
    rw [e1, e2]
    by_cases hT : T = i
    · subst hT; simp [hi]
    · rw [if_neg hT]
theorem ordI_bad {ws : List Wk} {order : List Int} {j : Nat} {b : Int} (h : order[j]? = some b) (hb : (decide (0 ≤ b) && decide (b < (ws.length : Int)) && !(order.take j).contains b && befTo ws (order.take j) b.toNat b.toNat) = false) (hl : order.length = ws.length) : ordB ws order = false := by
  have hj := lt_of_get h
  have hD : order.getD j 0 = b := by rw [List.getD_eq_getElem?_getD, h]; rfl
  have hI : ordI ws order j = false := by unfold ordI; rw [hD]; exact hb
  unfold ordB
  rw [ordTo_no hI hj, Bool.and_false]
theorem bef_no {ws : List Wk} {done : List Int} {b a k : Nat} (h : touchB (wAt ws a) (wAt ws b) = true) (hd : done.contains (a : Int) = false) (hk : a < k) : befTo ws done b k = false := by
  unfold befTo
  rw [List.all_eq_false]
  exact ⟨a, List.mem_range.2 hk, by rw [h, hd]; decide⟩
set_option maxRecDepth 100000 in
set_option maxHeartbeats 8000000 in
theorem order15 (p : Int) (A D : Option Addr) (n c k e : Nat) (ws : List Wk) (ord : List Int) (w : World) (hw : RdW w w.heap.size A ws) (hl : ws.length = n) (hok : SOk p ws) (hd : RdI w w.heap.size D ord) (hlk : ord.length = k) (hk : k ≤ 9223372036854775807) :
    Calls Try.prog 15 #[.agg #[.int .i64 p, .slice A n c], .slice D k e] w fun e w' => e = .returned (.bool (ordB ws ord)) ∧ Below w.heap.size w w' := by
  have HW := Lib.hid hw
  have HD := Lib.hid hd
  have HOK := Lib.hid hok
  have hn4 : n ≤ 400 := by rw [← hl]; exact hok.len
  have HL := Lib.hid hl
  have HK := Lib.hid hlk
  have K0 : Has (w.alloc (.cells #[.int .i64 p, .slice A n c] 24)) w.heap.size 24 [.int .i64 p, .slice A n c] := Has.new rfl
  by_cases hkn : k = n
  case neg =>
    have hkb : ((k : Int) != (n : Int)) = true := by simp; omega
    have e0 : ordB ws ord = false := by
      unfold ordB
      have : (ord.length == ws.length) = false := by rw [hlk, hl]; simpa using hkn
      rw [this]; rfl
    rw [e0]
    clear hw hl hok hd hlk hkn
    go_enter Try.func15, Try.ntmps15
    go_wp2
    go_ret
    exact ⟨rfl, by go_grown⟩
  subst hkn
  clear hw hl hok hd hlk
  have t0 : ((k : Int) != (k : Int)) = false := by simp
  have hmk := mkB k (by omega)
  have hG0 : Has ((w.alloc (.cells #[.int .i64 p, .slice A k c] 24)).alloc (.cells (madeCells #[.bool false] k) 4)) (w.heap.size + 1) 4 (isL ord k 0) := Has.new2 (by rw [made_rep, isL_zero])
  have hC0 := K0.alloc (.cells (madeCells #[.bool false] k) 4)
  have hB0 : Below w.heap.size w ((w.alloc (.cells #[.int .i64 p, .slice A k c] 24)).alloc (.cells (madeCells #[.bool false] k) 4)) := by go_grown
  have HG0 := Lib.hid hG0
  have HC0 := Lib.hid hC0
  have HR : Hid (ordB ws ord = ordTo ws ord k) := by
    show ordB ws ord = _
    unfold ordB
    rw [HK.out, HL.out, beq_self_eq_true, Bool.true_and]
  clear hG0 hC0 K0
  go_enter Try.func15, Try.ntmps15
  go_wp2
  clear hmk
  go_loopw [6] (fun i wr => ∃ j : Nat, j ≤ k ∧ i = .int .i64 (j : Int) ∧ ordTo ws ord j = true ∧ Hid (Has wr (w.heap.size + 1) 4 (isL ord k j)) ∧ Hid (Has wr w.heap.size 24 [.int .i64 p, .slice A k c]) ∧ Below w.heap.size w wr) (fun i _ => k - (intOf i).toNat)
  case atStart => exact ⟨0, Nat.zero_le _, rfl, rfl, HG0, HC0, hB0⟩
  case round =>
    clear HG0 HC0 hB0
    obtain ⟨j, hj, rfl, hto, HG, HC, hb⟩ := hrel
    obtain ⟨wo, rfl⟩ : ∃ wo : World, wo = wr := ⟨_, rfl⟩
    have HTO := Lib.hid hto; clear hto
    by_cases hlt : j < k
    · obtain ⟨b, hbj⟩ := get_of_lt (l := ord) (k := j) (by rw [HK.out]; exact hlt)
      obtain ⟨bd, od, rfl, hbd, cd⟩ := (HD.out.up hb) j b hbj
      have HBJ := Lib.hid hbj; clear hbj
      have jk : (j : Int) < (k : Int) := by omega
      by_cases h0 : b < 0
      · have d0 : decide (b < 0) = true := decide_eq_true h0
        have HF : Hid (ordB ws ord = false) := ordI_bad HBJ.out (by rw [decide_eq_false (by omega)]; rfl) (by rw [HK.out, HL.out])
        go_wp2
        go_ret
        exact ⟨ret_bool HF.out.symm, hb⟩
      · have d0 : decide (b < 0) = false := decide_eq_false h0
        by_cases h1 : (k : Int) ≤ b
        · have d1 : decide ((k : Int) ≤ b) = true := decide_eq_true h1
          have HF : Hid (ordB ws ord = false) := ordI_bad HBJ.out (by rw [decide_eq_true (show 0 ≤ b by omega), decide_eq_false (show ¬ b < (ws.length : Int) by rw [HL.out]; omega)]; rfl) (by rw [HK.out, HL.out])
          go_wp2
          go_ret
          exact ⟨ret_bool HF.out.symm, hb⟩
        · have d1 : decide ((k : Int) ≤ b) = false := decide_eq_false h1
          obtain ⟨bn, rfl⟩ := Int.eq_ofNat_of_zero_le (show 0 ≤ b by omega)
          have hbn : bn < k := by omega
          have hbn2 : (bn : Int) < (k : Int) := by omega
          have g0 : wo.cell? ⟨w.heap.size + 1, bn, none⟩ = some (.bool ((ord.take j).contains (bn : Int))) := (HG.out.cell bn).trans (isL_get hbn)
          have qg := HG.out.lt
          cases hin : (ord.take j).contains (bn : Int) with
          | true =>
            rw [hin] at g0
            have HF : Hid (ordB ws ord = false) := ordI_bad HBJ.out (by rw [hin, decide_eq_true (show (0 : Int) ≤ (bn : Int) by omega), decide_eq_true (show (bn : Int) < (ws.length : Int) by rw [HL.out]; omega)]; rfl) (by rw [HK.out, HL.out])
            clear hin
            go_wp2
            go_ret
            exact ⟨ret_bool HF.out.symm, hb⟩
          | false =>
            rw [hin] at g0
            have HIN := Lib.hid hin; clear hin
            obtain ⟨y, hy⟩ := get_of_lt (l := ws) (k := bn) (by rw [HL.out]; exact hbn)
            obtain ⟨ky0, ay0, ay1, _⟩ := bad_at (HOK.out.good y (mem_of_get hy))
            have hp24 := HOK.out.le
            have HY := Lib.hid hy
            have HYA := Lib.hid (wAt_get hy)
            clear hy
            have hz := hb.size
            go_wp2
            go_loopw [8] (fun i wr => ∃ a : Nat, a ≤ bn ∧ i = .int .i64 (a : Int) ∧ befTo ws (ord.take j) bn a = true ∧ Below wo.heap.size wo wr) (fun i _ => bn - (intOf i).toNat)
            case atStart => exact ⟨0, Nat.zero_le _, rfl, rfl, Below.refl _ _⟩
            case round =>
              obtain ⟨a, ha, rfl, hbef, hbq⟩ := hrel
              obtain ⟨wq, rfl⟩ : ∃ wq : World, wq = wr := ⟨_, rfl⟩
              have HBE := Lib.hid hbef; clear hbef
              have HGq := Lib.hid (HG.out.below hbq HG.out.lt)
              have HCq := Lib.hid (HC.out.below hbq HC.out.lt)
              have Bq := hb.trans (hbq.mono hz)
              by_cases hla : a < bn
              · obtain ⟨x, hx⟩ := get_of_lt (l := ws) (k := a) (by rw [HL.out]; omega)
                obtain ⟨kx0, ax0, ax1, _⟩ := bad_at (HOK.out.good x (mem_of_get hx))
                have HXA := Lib.hid (wAt_get hx)
                obtain ⟨ba, o, hA1, hba, c0, c1, c2⟩ := (HW.out.up Bq) a x hx
                obtain ⟨ba2, o2, hA2, _, e0, e1, e2⟩ := (HW.out.up Bq) bn y HY.out
                rw [hA1] at hA2
                injection hA2 with hA2; injection hA2 with hA2 hA3; subst hA2; subst hA3
                subst hA1
                clear hx
                have s1 : wq.cell? ⟨w.heap.size, 1, none⟩ = some (.slice (some ⟨ba, o, none⟩) k c) := HCq.out.cell 1
                have qs := HCq.out.lt
                have m0 : wq.cell? ⟨w.heap.size + 1, a, none⟩ = some (.bool ((ord.take j).contains (a : Int))) := (HGq.out.cell a).trans (isL_get (by omega))
                have qq := HGq.out.lt
                have ak : (a : Int) < (k : Int) := by omega
                have ak2 : a < k := by omega
                have ab : (a : Int) < (bn : Int) := by omega
                have J := Lib.hid (fun W => touch04 x.kind x.at_ y.kind y.at_ x.word y.word W (by omega) (by omega) (by omega) (by omega))
                have hTB : touchB (wAt ws a) (wAt ws bn) = touch x.at_ y.at_ := by rw [HXA.out, HYA.out]; rfl
                have hxc := fun (x : Ext wq) => x.cell
                cases htc : touch x.at_ y.at_ with
                | true =>
                  rw [htc] at hTB J
                  have HTB := Lib.hid hTB
                  clear hTB htc
                  cases hd : (ord.take j).contains (a : Int) with
                  | true =>
                    rw [hd] at m0
                    have HBE2 : Hid (befTo ws (ord.take j) bn (a + 1) = true) := by show _ = true; rw [befTo_succ, HBE.out, HTB.out, hd]; rfl
                    clear hd
                    go_upto_region 13 with (fail)
                    refine wp_region_ext (by kernel_rfl) (by kernel_rfl) ?_
                    repeat (go_big_quiet_step ((go_at_call 44; exact ext_call (J.out _))))
                    refine wpQuiet_nil ?_
                    intro _ hw'
                    obtain ⟨⟨w2, hb2⟩, rfl⟩ := hw'
                    clear hxc
                    go_wp2
                    go_roundw
                    case rel => exact ⟨a + 1, by omega, by go_num, HBE2.out, bvia hbq hb2⟩
                    case measure => first | (simp [intOf]; done) | (simp [intOf]; omega)
                  | false =>
                    rw [hd] at m0
                    have HF : Hid (ordB ws ord = false) := ordI_bad HBJ.out (by
                      have hcn : ((bn : Nat) : Int).toNat = bn := by simp
                      rw [hcn, bef_no HTB.out hd hla, Bool.and_false]) (by rw [HK.out, HL.out])
                    clear hd
                    go_upto_region 13 with (fail)
                    refine wp_region_ext (by kernel_rfl) (by kernel_rfl) ?_
                    repeat (go_big_quiet_step ((go_at_call 44; exact ext_call (J.out _))))
                    refine wpQuiet_nil ?_
                    intro _ hw'
                    obtain ⟨⟨w2, hb2⟩, rfl⟩ := hw'
                    clear hxc
                    go_wp2
                    go_ret
                    exact ⟨ret_bool HF.out.symm, hb.trans ((bvia hbq hb2).mono hz)⟩
                | false =>
                  rw [htc] at hTB J
                  have HBE2 : Hid (befTo ws (ord.take j) bn (a + 1) = true) := by show _ = true; rw [befTo_succ, HBE.out, hTB]; rfl
                  clear hTB htc
                  go_upto_region 13 with (fail)
                  refine wp_region_ext (by kernel_rfl) (by kernel_rfl) ?_
                  repeat (go_big_quiet_step ((go_at_call 44; exact ext_call (J.out _))))
                  refine wpQuiet_nil ?_
                  intro _ hw'
                  obtain ⟨⟨w2, hb2⟩, rfl⟩ := hw'
                  clear hxc
                  go_wp2
                  go_roundw
                  case rel => exact ⟨a + 1, by omega, by go_num, HBE2.out, bvia hbq hb2⟩
                  case measure => first | (simp [intOf]; done) | (simp [intOf]; omega)
              · obtain rfl : a = bn := by omega
                have HS : Hid (ordTo ws ord (j + 1) = true) := by
                  have hcn : ((a : Nat) : Int).toNat = a := by simp
                  have hD : ord.getD j 0 = (a : Int) := by rw [List.getD_eq_getElem?_getD, HBJ.out]; rfl
                  show _ = true
                  rw [ordTo_succ, HTO.out]
                  unfold ordI
                  rw [hD, hcn, HBE.out, HIN.out, decide_eq_true (show (0 : Int) ≤ (a : Int) by omega), decide_eq_true (show (a : Int) < (ws.length : Int) by rw [HL.out]; omega)]
                  rfl
                have g1 : wq.cell? ⟨w.heap.size + 1, a, none⟩ = some (.bool ((ord.take j).contains (a : Int))) := (HGq.out.cell a).trans (isL_get hbn)
                have f1 := HGq.out.free a
                have qq := HGq.out.lt
                have hne : w.heap.size ≠ w.heap.size + 1 := by omega
                go_wp2
                go_roundw
                case rel =>
                  have h := HGq.out.set a (.bool true)
                  rw [isL_set HBJ.out] at h
                  exact ⟨j + 1, by omega, by go_num, HS.out, Lib.hid h, Lib.hid (HCq.out.far hne _ _), Bq.setCell (by simp) _⟩
                case measure => first | (simp [intOf]; done) | (simp [intOf]; omega)
    · obtain rfl : k = j := by omega
      go_wp2
      go_ret
      exact ⟨ret_bool (by rw [HR.out, HTO.out]), hb⟩
end Go.Proofs.Ytpljaoagiaijiaa
