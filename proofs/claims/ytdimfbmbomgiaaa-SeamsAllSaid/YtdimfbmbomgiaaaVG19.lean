/-
  Walk of the law SeamsLoops.
-/
import Derived.Test.YtdimfbmbomgiaaaVG8
import Derived.Test.YtdimfbmbomgiaaaVG10
import Derived.Test.YtdimfbmbomgiaaaVG13
import Derived.Test.YtdimfbmbomgiaaaVG18
import Derived.Laws.MakeOwn
import Derived.Deep.Cut
namespace Go.Proofs.Ytdimfbmbomgiaaa
open Go.RowKit
theorem loop_le {nx : Nat → Nat} {T : Nat} (P : Cyc.Perm nx T) (hT : T ≤ 48) : ∀ l ∈ Cyc.loops nx T, l.length ≤ 48 := fun l hl => by
  have h1 := Cyc.loops_total P
  have h3 : ∀ (ls : List (List Nat)), l ∈ ls → l.length ≤ (ls.map List.length).sum := fun ls => by
    induction ls with
    | nil => intro h; cases h
    | cons x ls ih =>
      intro h
      simp only [List.map_cons, List.sum_cons]
      rcases List.mem_cons.1 h with rfl | h
      · omega
      · have := ih h; omega
  have := h3 _ hl
  omega
theorem loopsR_le (p : Int) (ws : List Wk) (h : Int) : ∀ l ∈ loopsR p ws h, l.length ≤ 48 := fun l hl => by
  unfold loopsR at hl
  split at hl
  · rename_i hE
    have hok := schk_zero (seE_zero hE).1
    exact loop_le (nxS_perm hok _) (by have := hok.le; omega) l hl
  · cases hl
attribute [local go_sem 10000] neq_kn
set_option maxRecDepth 100000 in
set_option maxHeartbeats 4000000 in
theorem loopsOf (p : Int) (A : Option Addr) (n c : Nat) (h : Int) (ws : List Wk) (w : World) (hn : n ≤ 9223372036854775807) (hw : RdW w w.heap.size A ws) (hl : ws.length = n) (hs : ∀ x ∈ ws, x.word.size ≤ 9223372036854775807) :
    Calls Try.prog 4 #[.agg #[.int .i64 p, .slice A n c], .int .i64 h] w fun e w' => e = .returned (.bool true) ∧ Below w.heap.size w w' := by
  have CF := Lib.hid (fun (W : World) (hb : Below w.heap.size w W) => far24 p A n c ws W hn (hw.up hb) hl hs)
  have C1 := Lib.hid (fun (W : World) (hb : Below w.heap.size w W) => knots14 p A n c h ws W hn (hw.up hb) hl hs)
  have C2 := Lib.hid (fun (W : World) (hb : Below w.heap.size w W) => knots15 p A n c h ws W hn (hw.up hb) hl hs)
  have C3 := Lib.hid (fun (W : World) (hb : Below w.heap.size w W) => loops16 p A n c h ws W hn (hw.up hb) hl hs)
  have C4 := Lib.hid (fun (W : World) (hb : Below w.heap.size w W) => loops17 p A n c h ws W hn (hw.up hb) hl hs)
  have C5 := Lib.hid (fun (W : World) (hb : Below w.heap.size w W) => period19 p A n c h ws W hn (hw.up hb) hl hs)
  have C6 := Lib.hid (fun (W : World) (hb : Below w.heap.size w W) => period20 p A n c h ws W hn (hw.up hb) hl hs)
  have HLE := Lib.hid (loopsR_le p ws h)
  have K0 : Has (w.alloc (.cells #[.int .i64 p, .slice A n c] 24)) w.heap.size 24 [.int .i64 p, .slice A n c] := Has.new rfl
  clear hw hl hs
  generalize loopsR p ws h = ls at *
  generalize perR p ws h = pr at *
  generalize kcR p ws h = kc at *
  generalize knR p ws h = ks at *
  generalize seE p ws h = er at *
  go_enter Try.func4, Try.ntmps4
  go_wp2_with fail
  refine (CF.out _ (by go_grown)).mono ?_
  rintro e w1 ⟨⟨b, rfl⟩, hb1⟩
  have B1 := Lib.hid (bvia (show Below w.heap.size w _ by go_grown) hb1)
  have HK := Lib.hid (K0.below hb1 K0.lt)
  clear K0 hb1 CF
  cases b with
  | true =>
    go_wp2_with fail
    refine (shown10 _).mono ?_
    rintro e w2 ⟨rfl, hb2⟩
    go_wp2
    go_ret
    exact ⟨rfl, bvia B1.out hb2⟩
  | false =>
    have a0 : w1.cell? ⟨w.heap.size, 0, none⟩ = some (.int .i64 p) := HK.out.cell 0
    have a1 : w1.cell? ⟨w.heap.size, 1, none⟩ = some (.slice A n c) := HK.out.cell 1
    have q := HK.out.lt
    go_wp2_with fail
    refine (C1.out _ B1.out).mono ?_
    rintro e w2 ⟨A2, n2, c2, rfl, r2, l2, hn2, hc2, hb2⟩
    have B2 := Lib.hid (bvia B1.out hb2)
    have HK2 := Lib.hid (HK.out.below hb2 HK.out.lt)
    have R2 := Lib.hid r2
    clear a0 a1 q hb2 HK B1 r2
    have a0 : w2.cell? ⟨w.heap.size, 0, none⟩ = some (.int .i64 p) := HK2.out.cell 0
    have a1 : w2.cell? ⟨w.heap.size, 1, none⟩ = some (.slice A n c) := HK2.out.cell 1
    have q := HK2.out.lt
    go_wp2_with fail
    refine (C2.out _ B2.out).mono ?_
    rintro e w3 ⟨A3, n3, c3, rfl, r3, l3, hn3, hc3, hb3⟩
    obtain rfl : n2 = n3 := by rw [← l2, l3]
    have B3 := Lib.hid (bvia B2.out hb3)
    have HK3 := Lib.hid (HK2.out.below hb3 HK2.out.lt)
    have R23 := Lib.hid (R2.out.up hb3)
    have R3 := Lib.hid r3
    clear a0 a1 q hb3 HK2 B2 r3 R2 l3
    have a0 : w3.cell? ⟨w.heap.size, 0, none⟩ = some (.int .i64 p) := HK3.out.cell 0
    have a1 : w3.cell? ⟨w.heap.size, 1, none⟩ = some (.slice A n c) := HK3.out.cell 1
    have q := HK3.out.lt
    go_wp2_with fail
    refine (C3.out _ B3.out).mono ?_
    rintro e w4 ⟨A4, n4, c4, rfl, r4, l4, hn4, hc4, hb4⟩
    have B4 := Lib.hid (bvia B3.out hb4)
    have HK4 := Lib.hid (HK3.out.below hb4 HK3.out.lt)
    have R24 := Lib.hid (R23.out.up hb4)
    have R34 := Lib.hid (R3.out.up hb4)
    have R4 := Lib.hid r4
    clear a0 a1 q hb4 HK3 B3 r4 R23 R3
    have a0 : w4.cell? ⟨w.heap.size, 0, none⟩ = some (.int .i64 p) := HK4.out.cell 0
    have a1 : w4.cell? ⟨w.heap.size, 1, none⟩ = some (.slice A n c) := HK4.out.cell 1
    have q := HK4.out.lt
    go_wp2_with fail
    refine (C4.out _ B4.out).mono ?_
    rintro e w5 ⟨A5, n5, c5, rfl, r5, l5, hn5, hc5, hb5⟩
    have B5 := Lib.hid (bvia B4.out hb5)
    have HK5 := Lib.hid (HK4.out.below hb5 HK4.out.lt)
    have R25 := Lib.hid (R24.out.up hb5)
    have R35 := Lib.hid (R34.out.up hb5)
    have CS := Lib.hid (fun (W : World) (hb : Below w5.heap.size w5 W) => same18 A4 A5 n4 n5 c4 c5 ls ls W (Nat.le_trans hn4 hc4) (Nat.le_trans hn5 hc5) ((R4.out.up hb5).up hb) (r5.up hb) l4 l5 HLE.out HLE.out)
    rw [show (ls == ls) = true by simp] at CS
    clear a0 a1 q hb5 HK4 B4 r5 R24 R34 R4
    have d1 : ((n2 : Int) != (n2 : Int)) = false := by simp
    have d2 : (kc != kc) = false := by simp
    have d3 : (er != er) = false := by simp
    go_wp2_with fail
    refine (CS.out _ (Below.refl _ _)).mono ?_
    rintro e w6 ⟨rfl, hb6⟩
    have B6 := Lib.hid (bvia B5.out hb6)
    have HK6 := Lib.hid (HK5.out.below hb6 HK5.out.lt)
    have R26 := Lib.hid (R25.out.up hb6)
    have R36 := Lib.hid (R35.out.up hb6)
    have L2 := Lib.hid l2
    clear hb6 HK5 B5 R25 R35 CS l2
    go_wp2
    go_loopw [15] (fun v wr => ∃ k : Nat, k ≤ n2 ∧ v = .int .i64 (k : Int) ∧ Hid (Below w6.heap.size w6 wr)) (fun v _ => n2 - (intOf v).toNat)
    case atStart => exact ⟨0, Nat.zero_le _, rfl, Below.refl _ _⟩
    case round =>
      obtain ⟨k, hk, rfl, HB⟩ := hrel
      obtain ⟨wo, rfl⟩ : ∃ wo : World, wo = wr := ⟨_, rfl⟩
      by_cases hlt : k < n2
      · have jk : (k : Int) < (n2 : Int) := by omega
        obtain ⟨x, hx⟩ := get_of_lt (l := ks) (k := k) (by rw [L2.out]; exact hlt)
        obtain ⟨b1, o1, e1, hb1, x0, x1⟩ := (R26.out.up HB.out) k x hx
        obtain ⟨b2, o2, e2, hb2, y0, y1⟩ := (R36.out.up HB.out) k x hx
        subst e1 e2
        clear hx
        have dd : (!(((x.1 : Nat) : Int) == ((x.1 : Nat) : Int) && ((x.2 : Nat) : Int) == ((x.2 : Nat) : Int))) = false := by simp
        go_wp2
        go_region_held3 (fun W' => W'.cell? ⟨b1, o1 + k * 2, none⟩ = some (vNat x.1) ∧ W'.cell? ⟨b1, o1 + k * 2 + 1, none⟩ = some (vNat x.2) ∧ W'.cell? ⟨b2, o2 + k * 2, none⟩ = some (vNat x.1) ∧ W'.cell? ⟨b2, o2 + k * 2 + 1, none⟩ = some (vNat x.2)) (first | exact ⟨x0, x1, y0, y1⟩ | go_keep) (fail)
        go_wp2
        go_roundw
        case rel => exact ⟨k + 1, by omega, by go_num, HB.out.drew⟩
        case measure => first | (simp [intOf]; done) | (simp [intOf]; omega)
      · obtain rfl : k = n2 := by omega
        have HK7 := Lib.hid (HK6.out.below HB.out HK6.out.lt)
        have B7 := Lib.hid (bvia B6.out HB.out)
        have a0 : wo.cell? ⟨w.heap.size, 0, none⟩ = some (.int .i64 p) := HK7.out.cell 0
        have a1 : wo.cell? ⟨w.heap.size, 1, none⟩ = some (.slice A n c) := HK7.out.cell 1
        have q := HK7.out.lt
        clear HK6 B6 R26 R36 HB
        by_cases hp : 12 < p
        · have d5 : decide (12 < p) = true := decide_eq_true hp
          by_cases hp2 : p ≤ 24
          · have d6 : decide (p ≤ 24) = true := decide_eq_true hp2
            go_wp2_with fail
            refine (shown10 _).mono ?_
            rintro e w8 ⟨rfl, hb8⟩
            go_wp2
            go_ret
            exact ⟨rfl, bvia B7.out hb8⟩
          · have d6 : decide (p ≤ 24) = false := decide_eq_false hp2
            go_wp2_with fail
            refine (C5.out _ B7.out).mono ?_
            rintro e w8 ⟨rfl, hb8⟩
            have B8 := Lib.hid (bvia B7.out hb8)
            have HK8 := Lib.hid (HK7.out.below hb8 HK7.out.lt)
            clear a0 a1 q hb8
            have a0 : w8.cell? ⟨w.heap.size, 0, none⟩ = some (.int .i64 p) := HK8.out.cell 0
            have a1 : w8.cell? ⟨w.heap.size, 1, none⟩ = some (.slice A n c) := HK8.out.cell 1
            have q := HK8.out.lt
            have d7 : (pr == pr) = true := by simp
            have d8 : (er == er) = true := by simp
            go_wp2_with fail
            refine (C6.out _ B8.out).mono ?_
            rintro e w9 ⟨rfl, hb9⟩
            have B9 := Lib.hid (bvia B8.out hb9)
            clear a0 a1 q hb9
            go_wp2_with fail
            refine (shown10 _).mono ?_
            rintro e w10 ⟨rfl, hb10⟩
            go_wp2
            go_ret
            exact ⟨rfl, bvia B9.out hb10⟩
        · have d5 : decide (12 < p) = false := decide_eq_false hp
          go_wp2_with fail
          refine (C5.out _ B7.out).mono ?_
          rintro e w8 ⟨rfl, hb8⟩
          have B8 := Lib.hid (bvia B7.out hb8)
          have HK8 := Lib.hid (HK7.out.below hb8 HK7.out.lt)
          clear a0 a1 q hb8
          have a0 : w8.cell? ⟨w.heap.size, 0, none⟩ = some (.int .i64 p) := HK8.out.cell 0
          have a1 : w8.cell? ⟨w.heap.size, 1, none⟩ = some (.slice A n c) := HK8.out.cell 1
          have q := HK8.out.lt
          have d7 : (pr == pr) = true := by simp
          have d8 : (er == er) = true := by simp
          go_wp2_with fail
          refine (C6.out _ B8.out).mono ?_
          rintro e w9 ⟨rfl, hb9⟩
          have B9 := Lib.hid (bvia B8.out hb9)
          clear a0 a1 q hb9
          go_wp2_with fail
          refine (shown10 _).mono ?_
          rintro e w10 ⟨rfl, hb10⟩
          go_wp2
          go_ret
          exact ⟨rfl, bvia B9.out hb10⟩
end Go.Proofs.Ytdimfbmbomgiaaa
/-
  Contracts of torchonref04: Touch, Order (of a valid sheet).
-/
namespace Go.Proofs.Ytdimfbmbomgiaaa
open Go.RowKit
theorem touch04 (k1 a1 k2 a2 : Int) (s1 s2 : ByteArray) (w : World) (h1 : -1000 ≤ a1) (h2 : a1 ≤ 1000) (h3 : -1000 ≤ a2) (h4 : a2 ≤ 1000) :
    Calls Try.prog 46 #[.agg #[.int .i64 k1, .int .i64 a1, .string s1], .agg #[.int .i64 k2, .int .i64 a2, .string s2]] w fun e w' => e = .returned (.bool (touch a1 a2)) ∧ Below w.heap.size w w' := by
  go_enter Try.func46, Try.ntmps46
  go_wp2
  all_goals go_ret
  all_goals exact ⟨ret_bool (by simp [touch]; try omega), by go_grown⟩
theorem infoBl : (Try.prog.info? 4).map (fun i => (i.zero, i.size, i.bytes)) = some (some (.bool false), 1, 1) := by kernel_rfl
theorem mkB (n : Nat) (_ : n ≤ 1000) (W : World) : (Instr.makeSlice 55 (.int .i64 (n : Int)) (.int .i64 (n : Int))).run Try.prog W = .ok (.slice (some ⟨W.heap.size, 0, none⟩) n n) (W.alloc (.cells (madeCells #[.bool false] n) 4)) := by
  obtain ⟨i, hi, hz, hs, hb⟩ := info_parts infoBl
  have h := run_make (P := Try.prog) W 55 4 i (.bool false) Try.underlying55 hi hz .i64 .i64 (n : Int) (n : Int) (by omega) (Int.le_refl _) (by rw [hb]; omega) (by omega)
  rw [hs] at h
  simpa [Value.cells] using h
theorem made_rep (z : Value) (n : Nat) : madeCells #[z] n = (List.replicate n z).toArray := by
  apply Array.ext'
  rw [toList_madeCells_one]
/-- which numbers stand among the first j -/
def isL (H : List Int) (k j : Nat) : List Value := (List.range k).map fun (T : Nat) => .bool ((H.take j).contains (T : Int))
theorem isL_get {H : List Int} {k j T : Nat} (h : T < k) : (isL H k j)[T]? = some (.bool ((H.take j).contains (T : Int))) := by simp [isL, h]
theorem isL_zero (H : List Int) (k : Nat) : isL H k 0 = List.replicate k (.bool false) := by
  apply List.ext_getElem?
  intro i
  rw [List.getElem?_replicate]
  by_cases h : i < k
  · rw [isL_get h]; simp [h]
  · have : (isL H k 0)[i]? = none := by rw [List.getElem?_eq_none]; simp [isL]; omega
    rw [this]; simp [h]
theorem isL_set {H : List Int} {k j T : Nat} (h : H[j]? = some (T : Int)) : (isL H k j).set T (.bool true) = isL H k (j + 1) := by
  apply List.ext_getElem?
  intro i
  have hl : ∀ j, (isL H k j).length = k := fun j => by simp [isL]
  rw [List.getElem?_set, hl]
  by_cases hi : i < k
  · rw [isL_get hi, isL_get hi, List.take_add_one, h]
    by_cases hT : T = i
    · subst hT; simp [hi]
    · rw [if_neg hT]
      congr 2
      rw [Bool.eq_iff_iff]
      simp
      omega
  · have e1 : (isL H k j)[i]? = none := by rw [List.getElem?_eq_none]; rw [hl]; omega
    have e2 : (isL H k (j + 1))[i]? = none := by rw [List.getElem?_eq_none]; rw [hl]; omega
    rw [e1, e2]
    by_cases hT : T = i
    · subst hT; simp [hi]
    · rw [if_neg hT]
theorem ordI_bad {ws : List Wk} {order : List Int} {j : Nat} {b : Int} (h : order[j]? = some b) (hb : (decide (0 ≤ b) && decide (b < (ws.length : Int)) && !(order.take j).contains b && befTo ws (order.take j) b.toNat b.toNat) = false) (_hl : order.length = ws.length) : ordB ws order = false := by
  have hj := lt_of_get h
  have hD : order.getD j 0 = b := by rw [List.getD_eq_getElem?_getD, h]; rfl
  have hI : ordI ws order j = false := by unfold ordI; rw [hD]; exact hb
  unfold ordB
  rw [ordTo_no hI hj, Bool.and_false]
theorem bef_no {ws : List Wk} {done : List Int} {b a k : Nat} (h : touchB (wAt ws a) (wAt ws b) = true) (hd : done.contains (a : Int) = false) (hk : a < k) : befTo ws done b k = false := by
  unfold befTo
  rw [List.all_eq_false]
  exact ⟨a, List.mem_range.2 hk, by rw [h, hd]; decide⟩
set_option maxRecDepth 100000 in
set_option maxHeartbeats 8000000 in
theorem order15 (p : Int) (A D : Option Addr) (n c k e : Nat) (ws : List Wk) (ord : List Int) (w : World) (hw : RdW w w.heap.size A ws) (hl : ws.length = n) (hok : SOk p ws) (hd : RdI w w.heap.size D ord) (hlk : ord.length = k) (hk : k ≤ 9223372036854775807) :
    Calls Try.prog 26 #[.agg #[.int .i64 p, .slice A n c], .slice D k e] w fun e w' => e = .returned (.bool (ordB ws ord)) ∧ Below w.heap.size w w' := by
  have HW := Lib.hid hw
  have HD := Lib.hid hd
  have HOK := Lib.hid hok
  have hn4 : n ≤ 400 := by rw [← hl]; exact hok.len
  have HL := Lib.hid hl
  have HK := Lib.hid hlk
  have K0 : Has (w.alloc (.cells #[.int .i64 p, .slice A n c] 24)) w.heap.size 24 [.int .i64 p, .slice A n c] := Has.new rfl
  by_cases hkn : k = n
  case neg =>
    have hkb : ((k : Int) != (n : Int)) = true := by simp; omega
    have e0 : ordB ws ord = false := by
      unfold ordB
      have : (ord.length == ws.length) = false := by rw [hlk, hl]; simpa using hkn
      rw [this]; rfl
    rw [e0]
    clear hw hl hok hd hlk hkn
    go_enter Try.func26, Try.ntmps26
    go_wp2
    go_ret
    exact ⟨rfl, by go_grown⟩
  subst hkn
  clear hw hl hok hd hlk
  have t0 : ((k : Int) != (k : Int)) = false := by simp
  have hmk := mkB k (by omega)
  have hG0 : Has ((w.alloc (.cells #[.int .i64 p, .slice A k c] 24)).alloc (.cells (madeCells #[.bool false] k) 4)) (w.heap.size + 1) 4 (isL ord k 0) := Has.new2 (by rw [made_rep, isL_zero])
  have hC0 := K0.alloc (.cells (madeCells #[.bool false] k) 4)
  have hB0 : Below w.heap.size w ((w.alloc (.cells #[.int .i64 p, .slice A k c] 24)).alloc (.cells (madeCells #[.bool false] k) 4)) := by go_grown
  have HG0 := Lib.hid hG0
  have HC0 := Lib.hid hC0
  have HR : Hid (ordB ws ord = ordTo ws ord k) := by
    show ordB ws ord = _
    unfold ordB
    rw [HK.out, HL.out, beq_self_eq_true, Bool.true_and]
  clear hG0 hC0 K0
  go_enter Try.func26, Try.ntmps26
  go_wp2
  clear hmk
  go_loopw [6] (fun i wr => ∃ j : Nat, j ≤ k ∧ i = .int .i64 (j : Int) ∧ ordTo ws ord j = true ∧ Hid (Has wr (w.heap.size + 1) 4 (isL ord k j)) ∧ Hid (Has wr w.heap.size 24 [.int .i64 p, .slice A k c]) ∧ Below w.heap.size w wr) (fun i _ => k - (intOf i).toNat)
  case atStart => exact ⟨0, Nat.zero_le _, rfl, rfl, HG0, HC0, hB0⟩
  case round =>
    clear HG0 HC0 hB0
    obtain ⟨j, hj, rfl, hto, HG, HC, hb⟩ := hrel
    obtain ⟨wo, rfl⟩ : ∃ wo : World, wo = wr := ⟨_, rfl⟩
    have HTO := Lib.hid hto; clear hto
    by_cases hlt : j < k
    · obtain ⟨b, hbj⟩ := get_of_lt (l := ord) (k := j) (by rw [HK.out]; exact hlt)
      obtain ⟨bd, od, rfl, hbd, cd⟩ := (HD.out.up hb) j b hbj
      have HBJ := Lib.hid hbj; clear hbj
      have jk : (j : Int) < (k : Int) := by omega
      by_cases h0 : b < 0
      · have d0 : decide (b < 0) = true := decide_eq_true h0
        have HF : Hid (ordB ws ord = false) := ordI_bad HBJ.out (by rw [decide_eq_false (by omega)]; rfl) (by rw [HK.out, HL.out])
        go_wp2
        go_ret
        exact ⟨ret_bool HF.out.symm, hb⟩
      · have d0 : decide (b < 0) = false := decide_eq_false h0
        by_cases h1 : (k : Int) ≤ b
        · have d1 : decide ((k : Int) ≤ b) = true := decide_eq_true h1
          have HF : Hid (ordB ws ord = false) := ordI_bad HBJ.out (by rw [decide_eq_true (show 0 ≤ b by omega), decide_eq_false (show ¬ b < (ws.length : Int) by rw [HL.out]; omega)]; rfl) (by rw [HK.out, HL.out])
          go_wp2
          go_ret
          exact ⟨ret_bool HF.out.symm, hb⟩
        · have d1 : decide ((k : Int) ≤ b) = false := decide_eq_false h1
          obtain ⟨bn, rfl⟩ := Int.eq_ofNat_of_zero_le (show 0 ≤ b by omega)
          have hbn : bn < k := by omega
          have hbn2 : (bn : Int) < (k : Int) := by omega
          have g0 : wo.cell? ⟨w.heap.size + 1, bn, none⟩ = some (.bool ((ord.take j).contains (bn : Int))) := (HG.out.cell bn).trans (isL_get hbn)
          have qg := HG.out.lt
          cases hin : (ord.take j).contains (bn : Int) with
          | true =>
            rw [hin] at g0
            have HF : Hid (ordB ws ord = false) := ordI_bad HBJ.out (by rw [hin, decide_eq_true (show (0 : Int) ≤ (bn : Int) by omega), decide_eq_true (show (bn : Int) < (ws.length : Int) by rw [HL.out]; omega)]; rfl) (by rw [HK.out, HL.out])
            clear hin
            go_wp2
            go_ret
            exact ⟨ret_bool HF.out.symm, hb⟩
          | false =>
            rw [hin] at g0
            have HIN := Lib.hid hin; clear hin
            obtain ⟨y, hy⟩ := get_of_lt (l := ws) (k := bn) (by rw [HL.out]; exact hbn)
            obtain ⟨ky0, ay0, ay1, _⟩ := bad_at (HOK.out.good y (mem_of_get hy))
            have hp24 := HOK.out.le
            have HY := Lib.hid hy
            have HYA := Lib.hid (wAt_get hy)
            clear hy
            have hz := hb.size
            go_wp2
            go_loopw [8] (fun i wr => ∃ a : Nat, a ≤ bn ∧ i = .int .i64 (a : Int) ∧ befTo ws (ord.take j) bn a = true ∧ Below wo.heap.size wo wr) (fun i _ => bn - (intOf i).toNat)
            case atStart => exact ⟨0, Nat.zero_le _, rfl, rfl, Below.refl _ _⟩
            case round =>
              obtain ⟨a, ha, rfl, hbef, hbq⟩ := hrel
              obtain ⟨wq, rfl⟩ : ∃ wq : World, wq = wr := ⟨_, rfl⟩
              have HBE := Lib.hid hbef; clear hbef
              have HGq := Lib.hid (HG.out.below hbq HG.out.lt)
              have HCq := Lib.hid (HC.out.below hbq HC.out.lt)
              have Bq := hb.trans (hbq.mono hz)
              by_cases hla : a < bn
              · obtain ⟨x, hx⟩ := get_of_lt (l := ws) (k := a) (by rw [HL.out]; omega)
                obtain ⟨kx0, ax0, ax1, _⟩ := bad_at (HOK.out.good x (mem_of_get hx))
                have HXA := Lib.hid (wAt_get hx)
                obtain ⟨ba, o, hA1, hba, c0, c1, c2⟩ := (HW.out.up Bq) a x hx
                obtain ⟨ba2, o2, hA2, _, e0, e1, e2⟩ := (HW.out.up Bq) bn y HY.out
                rw [hA1] at hA2
                injection hA2 with hA2; injection hA2 with hA2 hA3; subst hA2; subst hA3
                subst hA1
                clear hx
                have s1 : wq.cell? ⟨w.heap.size, 1, none⟩ = some (.slice (some ⟨ba, o, none⟩) k c) := HCq.out.cell 1
                have qs := HCq.out.lt
                have m0 : wq.cell? ⟨w.heap.size + 1, a, none⟩ = some (.bool ((ord.take j).contains (a : Int))) := (HGq.out.cell a).trans (isL_get (by omega))
                have qq := HGq.out.lt
                have ak : (a : Int) < (k : Int) := by omega
                have ak2 : a < k := by omega
                have ab : (a : Int) < (bn : Int) := by omega
                have J := Lib.hid (fun W => touch04 x.kind x.at_ y.kind y.at_ x.word y.word W (by omega) (by omega) (by omega) (by omega))
                have hTB : touchB (wAt ws a) (wAt ws bn) = touch x.at_ y.at_ := by rw [HXA.out, HYA.out]; rfl
                have hxc := fun (x : Ext wq) => x.cell
                cases htc : touch x.at_ y.at_ with
                | true =>
                  rw [htc] at hTB J
                  have HTB := Lib.hid hTB
                  clear hTB htc
                  cases hd : (ord.take j).contains (a : Int) with
                  | true =>
                    rw [hd] at m0
                    have HBE2 : Hid (befTo ws (ord.take j) bn (a + 1) = true) := by show _ = true; rw [befTo_succ, HBE.out, HTB.out, hd]; rfl
                    clear hd
                    go_upto_region 13 with (fail)
                    refine wp_region_ext (by kernel_rfl) (by kernel_rfl) ?_
                    repeat (go_big_quiet_step ((go_at_call 46; exact ext_call (J.out _))))
                    refine wpQuiet_nil ?_
                    intro _ hw'
                    obtain ⟨⟨w2, hb2⟩, rfl⟩ := hw'
                    clear hxc
                    go_wp2
                    go_roundw
                    case rel => exact ⟨a + 1, by omega, by go_num, HBE2.out, bvia hbq hb2⟩
                    case measure => first | (simp [intOf]; done) | (simp [intOf]; omega)
                  | false =>
                    rw [hd] at m0
                    have HF : Hid (ordB ws ord = false) := ordI_bad HBJ.out (by
                      have hcn : ((bn : Nat) : Int).toNat = bn := by simp
                      rw [hcn, bef_no HTB.out hd hla, Bool.and_false]) (by rw [HK.out, HL.out])
                    clear hd
                    go_upto_region 13 with (fail)
                    refine wp_region_ext (by kernel_rfl) (by kernel_rfl) ?_
                    repeat (go_big_quiet_step ((go_at_call 46; exact ext_call (J.out _))))
                    refine wpQuiet_nil ?_
                    intro _ hw'
                    obtain ⟨⟨w2, hb2⟩, rfl⟩ := hw'
                    clear hxc
                    go_wp2
                    go_ret
                    exact ⟨ret_bool HF.out.symm, hb.trans ((bvia hbq hb2).mono hz)⟩
                | false =>
                  rw [htc] at hTB J
                  have HBE2 : Hid (befTo ws (ord.take j) bn (a + 1) = true) := by show _ = true; rw [befTo_succ, HBE.out, hTB]; rfl
                  clear hTB htc
                  go_upto_region 13 with (fail)
                  refine wp_region_ext (by kernel_rfl) (by kernel_rfl) ?_
                  repeat (go_big_quiet_step ((go_at_call 46; exact ext_call (J.out _))))
                  refine wpQuiet_nil ?_
                  intro _ hw'
                  obtain ⟨⟨w2, hb2⟩, rfl⟩ := hw'
                  clear hxc
                  go_wp2
                  go_roundw
                  case rel => exact ⟨a + 1, by omega, by go_num, HBE2.out, bvia hbq hb2⟩
                  case measure => first | (simp [intOf]; done) | (simp [intOf]; omega)
              · obtain rfl : a = bn := by omega
                have HS : Hid (ordTo ws ord (j + 1) = true) := by
                  have hcn : ((a : Nat) : Int).toNat = a := by simp
                  have hD : ord.getD j 0 = (a : Int) := by rw [List.getD_eq_getElem?_getD, HBJ.out]; rfl
                  show _ = true
                  rw [ordTo_succ, HTO.out]
                  unfold ordI
                  rw [hD, hcn, HBE.out, HIN.out, decide_eq_true (show (0 : Int) ≤ (a : Int) by omega), decide_eq_true (show (a : Int) < (ws.length : Int) by rw [HL.out]; omega)]
                  rfl
                have g1 : wq.cell? ⟨w.heap.size + 1, a, none⟩ = some (.bool ((ord.take j).contains (a : Int))) := (HGq.out.cell a).trans (isL_get hbn)
                have f1 := HGq.out.free a
                have qq := HGq.out.lt
                have hne : w.heap.size ≠ w.heap.size + 1 := by omega
                go_wp2
                go_roundw
                case rel =>
                  have h := HGq.out.set a (.bool true)
                  rw [isL_set HBJ.out] at h
                  exact ⟨j + 1, by omega, by go_num, HS.out, Lib.hid h, Lib.hid (HCq.out.far hne _ _), Bq.setCell (by simp) _⟩
                case measure => first | (simp [intOf]; done) | (simp [intOf]; omega)
    · obtain rfl : k = j := by omega
      go_wp2
      go_ret
      exact ⟨ret_bool (by rw [HR.out, HTO.out]), hb⟩
end Go.Proofs.Ytdimfbmbomgiaaa
/-
  Contract of torchonref04.Reorder: a valid sheet in an allowed order.
-/
namespace Go.Proofs.Ytdimfbmbomgiaaa
open Go.RowKit
def labWk (ws : List Wk) (b : Int) : Wk := wAt ws b.toNat
set_option maxRecDepth 100000 in
set_option maxHeartbeats 8000000 in
theorem reorder16 (p : Int) (A D : Option Addr) (k c e : Nat) (ws : List Wk) (ord : List Int) (w : World) (hw : RdW w w.heap.size A ws) (hl : ws.length = k) (hok : SOk p ws) (hd : RdI w w.heap.size D ord) (hord : ordB ws ord = true) (hlk : ord.length = k) :
    Calls Try.prog 27 #[.agg #[.int .i64 p, .slice A k c], .slice D k e] w (RetSE p (reW ws ord) 0 w) := by
  have hk4 : k ≤ 400 := by rw [← hl]; exact hok.len
  have C1 := Lib.hid (fun (W : World) (hb : Below w.heap.size w W) => check04 p A k c ws W (by omega) (hw.up hb) hl (fun x hx => Nat.le_trans (hok.short x hx) (by omega)))
  rw [schk_of hok] at C1
  have C2 := Lib.hid (fun (W : World) (hb : Below w.heap.size w W) => order15 p A D k c k e ws ord W (hw.up hb) hl hok (hd.up hb) hlk (by omega))
  rw [hord] at C2
  have HOR : Hid (∀ (j : Nat) (b : Int), ord[j]? = some b → 0 ≤ b ∧ b < (k : Int)) := fun j b hb => by
    unfold ordB at hord
    have h2 := ((Bool.and_eq_true_iff).1 hord).2
    have hI := List.all_eq_true.1 h2 j (List.mem_range.2 (lt_of_get hb))
    unfold ordI at hI
    have hD : ord.getD j 0 = b := by rw [List.getD_eq_getElem?_getD, hb]; rfl
    rw [hD] at hI
    simp only [Bool.and_eq_true, decide_eq_true_eq] at hI
    exact ⟨hI.1.1.1, by rw [← hl]; exact hI.1.1.2⟩
  have HW := Lib.hid hw
  have HD := Lib.hid hd
  have HL := Lib.hid hl
  have HK := Lib.hid hlk
  clear hw hl hok hd hord hlk
  go_enter Try.func27, Try.ntmps27
  go_wp2_with fail
  refine (C1.out _ (by go_grown)).mono ?_
  rintro e1 w1 ⟨rfl, hb1⟩
  have K1 : Has w1 w.heap.size 24 [.int .i64 p, .slice A k c] := ((Has.new rfl).alloc _).below hb1 (by simp; omega)
  have K2 : Has w1 (w.heap.size + 1) 24 [.int .i64 0, .slice none 0 0] := (Has.new2 rfl).below hb1 (by simp)
  have B1 : Below w.heap.size w w1 := bvia (show Below w.heap.size w _ by go_grown) hb1
  have a0 : w1.cell? ⟨w.heap.size, 0, none⟩ = some (.int .i64 p) := K1.cell 0
  have a1 : w1.cell? ⟨w.heap.size, 1, none⟩ = some (.slice A k c) := K1.cell 1
  have q := K1.lt
  go_wp2_with fail
  refine (C2.out _ B1).mono ?_
  rintro e2 w2 ⟨rfl, hb2⟩
  have L1 := Lib.hid (K1.below hb2 K1.lt)
  have L2 := Lib.hid (K2.below hb2 K2.lt)
  have B2 := bvia B1 hb2
  clear a0 a1 q K1 K2 hb1 hb2 B1
  have a0 : w2.cell? ⟨w.heap.size, 0, none⟩ = some (.int .i64 p) := L1.out.cell 0
  have q := L1.out.lt
  obtain ⟨w3, hw3⟩ : ∃ w3, w3 = w2.alloc (.cells #[.int .i64 p, .slice none 0 0] 24) := ⟨_, rfl⟩
  have hb3 : Below w2.heap.size w2 w3 := by rw [hw3]; go_grown
  have K3 : Has w3 w2.heap.size 24 [.int .i64 p, .slice none 0 0] := by rw [hw3]; exact Has.new rfl
  go_upto_region 7 with (fail)
  rw [← hw3]
  obtain ⟨gO, hgO⟩ : ∃ g, g = w2.heap.size := ⟨_, rfl⟩
  have hwO : w.heap.size + 1 < gO := by rw [hgO]; exact L2.out.lt
  have HB3 : Hid (Below gO w2 w3) := by rw [hgO]; exact hb3
  rw [← hgO] at K3 ⊢
  have HO3 := Lib.hid K3
  have HGO := Lib.hid hgO
  clear hw3 hb3 hgO K3 a0 q
  go_wp2
  go_loopw [8] (fun i wr => ∃ (j : Nat) (X : Option Addr) (cx : Nat), j ≤ k ∧ i = .int .i64 (j : Int) ∧ Hid (Has wr gO 24 [.int .i64 p, .slice X j cx]) ∧ Hid (wr.ownsRow (gO + 1) 63 3 (.slice X j cx) j (wksCells ((ord.take j).map (labWk ws)))) ∧ Hid (Below gO w2 wr)) (fun i _ => k - (intOf i).toNat)
  case atStart => exact ⟨0, none, 0, Nat.zero_le _, rfl, HO3, Lib.hid (World.ownsRow_nil _ _ _ _), HB3⟩
  case round =>
    clear HO3 HB3
    obtain ⟨j, X, cx, hj, rfl, HO, HR, HB⟩ := hrel
    obtain ⟨wo, rfl⟩ : ∃ wo : World, wo = wr := ⟨_, rfl⟩
    have Bo := B2.trans (HB.out.mono (show w.heap.size ≤ gO by omega))
    have qO := HO.out.lt
    have HBX := L1.out.below HB.out (by omega)
    by_cases hlt : j < k
    · obtain ⟨b, hbj⟩ := get_of_lt (l := ord) (k := j) (by rw [HK.out]; exact hlt)
      obtain ⟨b0, b1⟩ := HOR.out j b hbj
      obtain ⟨bn, rfl⟩ := Int.eq_ofNat_of_zero_le b0
      have hbn : bn < k := by omega
      obtain ⟨bd, od, rfl, hbd, cd⟩ := HD.out j _ hbj
      obtain ⟨x, hx⟩ := get_of_lt (l := ws) (k := bn) (by rw [HL.out]; exact hbn)
      obtain ⟨ba, o, rfl, hba, e0, e1, e2⟩ := HW.out bn x hx
      have HKEY : Hid (∀ W, Below gO wo W → W.cell? ⟨w.heap.size, 1, none⟩ = some (.slice (some ⟨ba, o, none⟩) k c) ∧ W.cell? ⟨bd, od + j, none⟩ = some (.int .i64 (bn : Int)) ∧ W.cell? ⟨ba, o + bn * 3, none⟩ = some (.int .i64 x.kind) ∧ W.cell? ⟨ba, o + bn * 3 + 1, none⟩ = some (.int .i64 x.at_) ∧ W.cell? ⟨ba, o + bn * 3 + 2, none⟩ = some (.string x.word)) := fun W hW => by
        have hb := Bo.trans (hW.mono (show w.heap.size ≤ gO by omega))
        exact ⟨(hW.cell (p := ⟨w.heap.size, 1, none⟩) (show w.heap.size < gO by omega)).trans (HBX.cell 1), (hb.cell (p := ⟨bd, od + j, none⟩) hbd).trans cd, (hb.cell (p := ⟨ba, o + bn * 3, none⟩) hba).trans e0, (hb.cell (p := ⟨ba, o + bn * 3 + 1, none⟩) hba).trans e1, (hb.cell (p := ⟨ba, o + bn * 3 + 2, none⟩) hba).trans e2⟩
      obtain ⟨s1, s2, c0, c1, c2⟩ := HKEY.out wo (Below.refl _ _)
      have s3 : wo.cell? ⟨gO, 1, none⟩ = some (.slice X j cx) := HO.out.cell 1
      have HST : Hid ((ord.take (j + 1)).map (labWk ws) = (ord.take j).map (labWk ws) ++ [x]) := by
        show _ = _
        rw [List.take_add_one, hbj, List.map_append]
        have hcn : ((bn : Nat) : Int).toNat = bn := by simp
        have e : labWk ws (bn : Int) = x := by unfold labWk; rw [hcn]; exact wAt_get hx
        rw [Option.toList_some, List.map_cons, List.map_nil, e]
      have jk : (j : Int) < (k : Int) := by omega
      have bk : (bn : Int) < (k : Int) := by omega
      have qw : w.heap.size < wo.heap.size := by omega
      have qd : bd < wo.heap.size := by omega
      have qa : ba < wo.heap.size := by omega
      clear hbj b0 b1 cd hx e0 e1 e2 HBX
      go_upto_region 10 with (fail)
      refine wp_region_noPanic ?_
      refine wp_region_B (fun b w' => w'.cell? ⟨w.heap.size, 1, none⟩ = some (.slice (some ⟨ba, o, none⟩) k c) ∧ w'.cell? ⟨bd, od + j, none⟩ = some (.int .i64 (bn : Int)) ∧ w'.cell? ⟨ba, o + bn * 3, none⟩ = some (.int .i64 x.kind) ∧ w'.cell? ⟨ba, o + bn * 3 + 1, none⟩ = some (.int .i64 x.at_) ∧ w'.cell? ⟨ba, o + bn * 3 + 2, none⟩ = some (.string x.word) ∧ (b = false → w'.cell? ⟨gO, 1, none⟩ = some (.slice X j cx))) 13 (by kernel_rfl) ?_
      have hSSr : (fun b w' => w'.cell? ⟨w.heap.size, 1, none⟩ = some (.slice (some ⟨ba, o, none⟩) k c) ∧ w'.cell? ⟨bd, od + j, none⟩ = some (.int .i64 (bn : Int)) ∧ w'.cell? ⟨ba, o + bn * 3, none⟩ = some (.int .i64 x.kind) ∧ w'.cell? ⟨ba, o + bn * 3 + 1, none⟩ = some (.int .i64 x.at_) ∧ w'.cell? ⟨ba, o + bn * 3 + 2, none⟩ = some (.string x.word) ∧ (b = false → w'.cell? ⟨gO, 1, none⟩ = some (.slice X j cx))) false (wo.drew) := ⟨s1, s2, c0, c1, c2, fun _ => s3⟩
      refine wpAnyB_take (i := 0) (oi := _) (v := ?vvr1) (fun w' => w'.cell? ⟨w.heap.size, 1, none⟩ = some (.slice (some ⟨ba, o, none⟩) k c) ∧ w'.cell? ⟨bd, od + j, none⟩ = some (.int .i64 (bn : Int)) ∧ w'.cell? ⟨ba, o + bn * 3, none⟩ = some (.int .i64 x.kind) ∧ w'.cell? ⟨ba, o + bn * 3 + 1, none⟩ = some (.int .i64 x.at_) ∧ w'.cell? ⟨ba, o + bn * 3 + 2, none⟩ = some (.string x.word)) rfl (by kernel_rfl) (by kernel_rfl) (by kernel_rfl) (by kernel_rfl) (by rfl) (fun _ h => ⟨h.1, h.2.1, h.2.2.1, h.2.2.2.1, h.2.2.2.2.1⟩) (.inl fun _ h => ⟨h.1, h.2.1, h.2.2.1, h.2.2.2.1, h.2.2.2.2.1⟩) (fun _ _ _ h => h) (.inl ⟨by rfl, ?hyr1⟩) hSSr ?_
      case hyr1 =>
        intro w' hSw
        try dsimp only at hSw
        go_simp
        all_goals with_reducible rfl
      try simp only [Act.put, List.setIfInBounds_toArray]
      refine wpAnyB_take (i := 1) (oi := _) (v := ?vvr2) (fun w' => w'.cell? ⟨w.heap.size, 1, none⟩ = some (.slice (some ⟨ba, o, none⟩) k c) ∧ w'.cell? ⟨bd, od + j, none⟩ = some (.int .i64 (bn : Int)) ∧ w'.cell? ⟨ba, o + bn * 3, none⟩ = some (.int .i64 x.kind) ∧ w'.cell? ⟨ba, o + bn * 3 + 1, none⟩ = some (.int .i64 x.at_) ∧ w'.cell? ⟨ba, o + bn * 3 + 2, none⟩ = some (.string x.word) ∧ w'.cell? ⟨gO, 1, none⟩ = some (.slice X j cx)) rfl (by kernel_rfl) (by kernel_rfl) (by kernel_rfl) (by kernel_rfl) (by rfl) (fun _ h => ⟨h.1, h.2.1, h.2.2.1, h.2.2.2.1, h.2.2.2.2.1, h.2.2.2.2.2 rfl⟩) (.inr (by kernel_rfl)) (fun _ _ _ h => h) (.inl ⟨by rfl, ?hyr2⟩) hSSr ?_
      case hyr2 =>
        intro w' hSw
        try dsimp only at hSw
        go_simp
        all_goals with_reducible rfl
      try simp only [Act.put]
      refine wpAnyB_take (i := 2) (oi := _) (v := ?vvr3) (fun w' => w'.cell? ⟨w.heap.size, 1, none⟩ = some (.slice (some ⟨ba, o, none⟩) k c) ∧ w'.cell? ⟨bd, od + j, none⟩ = some (.int .i64 (bn : Int)) ∧ w'.cell? ⟨ba, o + bn * 3, none⟩ = some (.int .i64 x.kind) ∧ w'.cell? ⟨ba, o + bn * 3 + 1, none⟩ = some (.int .i64 x.at_) ∧ w'.cell? ⟨ba, o + bn * 3 + 2, none⟩ = some (.string x.word)) rfl (by kernel_rfl) (by kernel_rfl) (by kernel_rfl) (by kernel_rfl) (by rfl) (fun _ h => ⟨h.1, h.2.1, h.2.2.1, h.2.2.2.1, h.2.2.2.2.1⟩) (.inl fun _ h => ⟨h.1, h.2.1, h.2.2.1, h.2.2.2.1, h.2.2.2.2.1⟩) (fun _ _ _ h => h) (.inl ⟨by rfl, ?hyr3⟩) hSSr ?_
      case hyr3 =>
        intro w' hSw
        try dsimp only at hSw
        go_simp
        all_goals with_reducible rfl
      try simp only [Act.put]
      refine wpAnyB_take (i := 3) (oi := _) (v := ?vvr4) (fun w' => w'.cell? ⟨w.heap.size, 1, none⟩ = some (.slice (some ⟨ba, o, none⟩) k c) ∧ w'.cell? ⟨bd, od + j, none⟩ = some (.int .i64 (bn : Int)) ∧ w'.cell? ⟨ba, o + bn * 3, none⟩ = some (.int .i64 x.kind) ∧ w'.cell? ⟨ba, o + bn * 3 + 1, none⟩ = some (.int .i64 x.at_) ∧ w'.cell? ⟨ba, o + bn * 3 + 2, none⟩ = some (.string x.word)) rfl (by kernel_rfl) (by kernel_rfl) (by kernel_rfl) (by kernel_rfl) (by rfl) (fun _ h => ⟨h.1, h.2.1, h.2.2.1, h.2.2.2.1, h.2.2.2.2.1⟩) (.inl fun _ h => ⟨h.1, h.2.1, h.2.2.1, h.2.2.2.1, h.2.2.2.2.1⟩) (fun _ _ _ h => h) (.inl ⟨by rfl, ?hyr4⟩) hSSr ?_
      case hyr4 =>
        intro w' hSw
        try dsimp only at hSw
        go_simp
        all_goals with_reducible rfl
      try simp only [Act.put]
      refine wpAnyB_take (i := 4) (oi := _) (v := ?vvr5) (fun w' => w'.cell? ⟨w.heap.size, 1, none⟩ = some (.slice (some ⟨ba, o, none⟩) k c) ∧ w'.cell? ⟨bd, od + j, none⟩ = some (.int .i64 (bn : Int)) ∧ w'.cell? ⟨ba, o + bn * 3, none⟩ = some (.int .i64 x.kind) ∧ w'.cell? ⟨ba, o + bn * 3 + 1, none⟩ = some (.int .i64 x.at_) ∧ w'.cell? ⟨ba, o + bn * 3 + 2, none⟩ = some (.string x.word)) rfl (by kernel_rfl) (by kernel_rfl) (by kernel_rfl) (by kernel_rfl) (by rfl) (fun _ h => ⟨h.1, h.2.1, h.2.2.1, h.2.2.2.1, h.2.2.2.2.1⟩) (.inl fun _ h => ⟨h.1, h.2.1, h.2.2.1, h.2.2.2.1, h.2.2.2.2.1⟩) (fun _ _ _ h => h) (.inl ⟨by rfl, ?hyr5⟩) hSSr ?_
      case hyr5 =>
        intro w' hSw
        try dsimp only at hSw
        go_simp
        all_goals with_reducible rfl
      try simp only [Act.put]
      refine wpAnyB_take (i := 5) (oi := _) (v := ?vvr6) (fun w' => w'.cell? ⟨w.heap.size, 1, none⟩ = some (.slice (some ⟨ba, o, none⟩) k c) ∧ w'.cell? ⟨bd, od + j, none⟩ = some (.int .i64 (bn : Int)) ∧ w'.cell? ⟨ba, o + bn * 3, none⟩ = some (.int .i64 x.kind) ∧ w'.cell? ⟨ba, o + bn * 3 + 1, none⟩ = some (.int .i64 x.at_) ∧ w'.cell? ⟨ba, o + bn * 3 + 2, none⟩ = some (.string x.word)) rfl (by kernel_rfl) (by kernel_rfl) (by kernel_rfl) (by kernel_rfl) (by rfl) (fun _ h => ⟨h.1, h.2.1, h.2.2.1, h.2.2.2.1, h.2.2.2.2.1⟩) (.inl fun _ h => ⟨h.1, h.2.1, h.2.2.1, h.2.2.2.1, h.2.2.2.2.1⟩) (fun _ _ _ h => h) (.inl ⟨by rfl, ?hyr6⟩) hSSr ?_
      case hyr6 =>
        intro w' hSw
        try dsimp only at hSw
        go_simp
        all_goals with_reducible rfl
      try simp only [Act.put]
      refine wpAnyB_take (i := 6) (oi := _) (v := ?vvr7) (fun w' => w'.cell? ⟨w.heap.size, 1, none⟩ = some (.slice (some ⟨ba, o, none⟩) k c) ∧ w'.cell? ⟨bd, od + j, none⟩ = some (.int .i64 (bn : Int)) ∧ w'.cell? ⟨ba, o + bn * 3, none⟩ = some (.int .i64 x.kind) ∧ w'.cell? ⟨ba, o + bn * 3 + 1, none⟩ = some (.int .i64 x.at_) ∧ w'.cell? ⟨ba, o + bn * 3 + 2, none⟩ = some (.string x.word)) rfl (by kernel_rfl) (by kernel_rfl) (by kernel_rfl) (by kernel_rfl) (by rfl) (fun _ h => ⟨h.1, h.2.1, h.2.2.1, h.2.2.2.1, h.2.2.2.2.1⟩) (.inl fun _ h => ⟨h.1, h.2.1, h.2.2.1, h.2.2.2.1, h.2.2.2.2.1⟩) (fun _ _ _ h => h) (.inl ⟨by rfl, ?hyr7⟩) hSSr ?_
      case hyr7 =>
        intro w' hSw
        try dsimp only at hSw
        go_simp
        all_goals with_reducible rfl
      try simp only [Act.put]
      refine wpAnyB_take (i := 7) (oi := _) (v := ?vvr8) (fun w' => w'.cell? ⟨w.heap.size, 1, none⟩ = some (.slice (some ⟨ba, o, none⟩) k c) ∧ w'.cell? ⟨bd, od + j, none⟩ = some (.int .i64 (bn : Int)) ∧ w'.cell? ⟨ba, o + bn * 3, none⟩ = some (.int .i64 x.kind) ∧ w'.cell? ⟨ba, o + bn * 3 + 1, none⟩ = some (.int .i64 x.at_) ∧ w'.cell? ⟨ba, o + bn * 3 + 2, none⟩ = some (.string x.word)) rfl (by kernel_rfl) (by kernel_rfl) (by kernel_rfl) (by kernel_rfl) (by rfl) (fun _ h => ⟨h.1, h.2.1, h.2.2.1, h.2.2.2.1, h.2.2.2.2.1⟩) (.inl fun _ h => ⟨h.1, h.2.1, h.2.2.1, h.2.2.2.1, h.2.2.2.2.1⟩) (fun _ _ _ h => h) (.inl ⟨by rfl, ?hyr8⟩) hSSr ?_
      case hyr8 =>
        intro w' hSw
        try dsimp only at hSw
        go_simp
        all_goals with_reducible rfl
      try simp only [Act.put]
      refine wpAnyB_take (i := 8) (oi := _) (v := ?vvr9) (fun w' => w'.cell? ⟨w.heap.size, 1, none⟩ = some (.slice (some ⟨ba, o, none⟩) k c) ∧ w'.cell? ⟨bd, od + j, none⟩ = some (.int .i64 (bn : Int)) ∧ w'.cell? ⟨ba, o + bn * 3, none⟩ = some (.int .i64 x.kind) ∧ w'.cell? ⟨ba, o + bn * 3 + 1, none⟩ = some (.int .i64 x.at_) ∧ w'.cell? ⟨ba, o + bn * 3 + 2, none⟩ = some (.string x.word)) rfl (by kernel_rfl) (by kernel_rfl) (by kernel_rfl) (by kernel_rfl) (by rfl) (fun _ h => ⟨h.1, h.2.1, h.2.2.1, h.2.2.2.1, h.2.2.2.2.1⟩) (.inl fun _ h => ⟨h.1, h.2.1, h.2.2.1, h.2.2.2.1, h.2.2.2.2.1⟩) (fun _ _ _ h => h) (.inl ⟨by rfl, ?hyr9⟩) hSSr ?_
      case hyr9 =>
        intro w' hSw
        try dsimp only at hSw
        go_simp
        all_goals with_reducible rfl
      try simp only [Act.put]
      refine wpAnyB_take (i := 9) (oi := _) (v := ?vvr10) (fun w' => w'.cell? ⟨w.heap.size, 1, none⟩ = some (.slice (some ⟨ba, o, none⟩) k c) ∧ w'.cell? ⟨bd, od + j, none⟩ = some (.int .i64 (bn : Int)) ∧ w'.cell? ⟨ba, o + bn * 3, none⟩ = some (.int .i64 x.kind) ∧ w'.cell? ⟨ba, o + bn * 3 + 1, none⟩ = some (.int .i64 x.at_) ∧ w'.cell? ⟨ba, o + bn * 3 + 2, none⟩ = some (.string x.word)) rfl (by kernel_rfl) (by kernel_rfl) (by kernel_rfl) (by kernel_rfl) (by rfl) (fun _ h => ⟨h.1, h.2.1, h.2.2.1, h.2.2.2.1, h.2.2.2.2.1⟩) (.inl fun _ h => ⟨h.1, h.2.1, h.2.2.1, h.2.2.2.1, h.2.2.2.2.1⟩) (fun _ _ _ h => h) (.inl ⟨by rfl, ?hyr10⟩) hSSr ?_
      case hyr10 =>
        intro w' hSw
        try dsimp only at hSw
        go_simp
        all_goals with_reducible rfl
      try simp only [Act.put]
      refine wpAnyB_one (i := 10) false rfl (by kernel_rfl) (by kernel_rfl) ?_
      intro KK hKK
      go_simp
      generalize hW2 : (wo.alloc (.cells #[.int .i64 x.kind, .int .i64 x.at_, .string x.word] 63)).drew = W2
      have hB2 : Below wo.heap.size wo W2 := by rw [← hW2]; exact ((Below.refl _ wo).alloc (Nat.le_refl _) _).drew
      have k2 := HKEY.out W2 (hB2.mono (Nat.le_of_lt qO))
      have hO2 := HO.out.below hB2 HO.out.lt
      have hr2 := own_below HR.out hB2
      have hn2 : ∀ p u, ([.int .i64 x.kind, .int .i64 x.at_, .string x.word] : List Value)[p]? = some u → W2.cell? ⟨wo.heap.size, p, none⟩ = some u := fun p u hu => by rw [← hW2]; exact ((Has.new (w := wo) (t := 63) (cs := [.int .i64 x.kind, .int .i64 x.at_, .string x.word]) rfl).drew.cell p).trans hu
      have hsz2 : gO + 1 ≤ W2.heap.size := Nat.le_trans (show gO + 1 ≤ wo.heap.size from qO) hB2.size
      clear hW2
      refine hKK.out _ _ ⟨k2.1, k2.2.1, k2.2.2.1, k2.2.2.2.1, k2.2.2.2.2, fun _ => hO2.cell 1⟩ ?_
      clear hKK KK
      try simp only [Act.put, List.setIfInBounds_toArray, List.set_cons_zero, List.set_cons_succ]
      refine wpAnyB_one (i := 11) false rfl (by kernel_rfl) (by kernel_rfl) ?_
      intro KK hKK
      refine step_appN rfl (.tmp 30) (.tmp 39) 22 rfl (gO + 1) 63 (.agg #[.int .i64 0, .int .i64 0, .string ⟨#[]⟩]) 3 32 Try.underlying22 infoWk rfl (by omega) (by omega) (.slice X j cx) j (wksCells ((ord.take j).map (labWk ws))) rfl hr2 ⟨wo.heap.size, 0, none⟩ 1 1 [.int .i64 x.kind, .int .i64 x.at_, .string x.word] rfl rfl (fun j u hu => by rw [Addr.add_lit, Nat.zero_add]; exact hn2 j u hu) (one_wk x) (by omega) hsz2 ?_
      intro v' w4 hown4 hgrow4 hnil4 hor4
      obtain ⟨A4, c4, rfl⟩ := own_form hown4
      have hO4 : Has w4 gO _ _ := hO2.same (hgrow4.block _ hO2.lt (fun e => (hO2.ne_own hr2 (by decide)) e.symm))
      have hB4 : Below gO wo w4 := (hB2.mono (Nat.le_of_lt qO)).grown hgrow4 (Nat.le_of_lt hO2.lt) (fun r hr => by have := (hr2.lt r hr).1; omega)
      have k4 := HKEY.out w4 hB4
      refine hKK.out _ _ ⟨k4.1, k4.2.1, k4.2.2.1, k4.2.2.2.1, k4.2.2.2.2, fun _ => hO4.cell 1⟩ ?_
      clear hKK KK
      try simp only [Act.put, List.setIfInBounds_toArray]
      refine wpAnyB_take (i := 12) (oi := _) (v := ?vvr11) (fun w' => w'.cell? ⟨w.heap.size, 1, none⟩ = some (.slice (some ⟨ba, o, none⟩) k c) ∧ w'.cell? ⟨bd, od + j, none⟩ = some (.int .i64 (bn : Int)) ∧ w'.cell? ⟨ba, o + bn * 3, none⟩ = some (.int .i64 x.kind) ∧ w'.cell? ⟨ba, o + bn * 3 + 1, none⟩ = some (.int .i64 x.at_) ∧ w'.cell? ⟨ba, o + bn * 3 + 2, none⟩ = some (.string x.word)) rfl (by kernel_rfl) (by kernel_rfl) (by kernel_rfl) (by kernel_rfl) (by rfl) (fun _ h => ⟨h.1, h.2.1, h.2.2.1, h.2.2.2.1, h.2.2.2.2.1⟩) (.inl fun _ h => ⟨h.1, h.2.1, h.2.2.1, h.2.2.2.1, h.2.2.2.2.1⟩) (fun _ _ _ h => h) (.inl ⟨by rfl, ?hyr11⟩) ⟨k4.1, k4.2.1, k4.2.2.1, k4.2.2.2.1, k4.2.2.2.2, fun _ => hO4.cell 1⟩ ?_
      case hyr11 =>
        intro w' hSw
        try dsimp only at hSw
        go_simp
        all_goals with_reducible rfl
      try simp only [Act.put]
      refine wpAnyB_one (i := 13) true rfl (by kernel_rfl) (by kernel_rfl) ?_
      intro KK hKK
      have f4 := hO4.free 1
      have q4 := hO4.lt
      have s4 : w4.cell? ⟨gO, 1, none⟩ = some (.slice X j cx) := hO4.cell 1
      have k5 := HKEY.out (w4.setCell ⟨gO, 1, none⟩ (.slice A4 (j + 1) c4)) (hB4.setCell (Nat.le_refl _) _)
      go_simp
      refine hKK.out _ _ ⟨k5.1, k5.2.1, k5.2.2.1, k5.2.2.2.1, k5.2.2.2.2, fun hh => by cases hh⟩ ?_
      clear hKK KK
      try simp only [Act.put, List.setIfInBounds_toArray, List.set_cons_zero, List.set_cons_succ]
      refine wpAnyB_done (by kernel_rfl) (NoPanic.normal ?_) _
      have hO5 := Lib.hid (hO4.set 1 (.slice A4 (j + 1) c4))
      have hR5 := (But.set gO w4 1 (.slice A4 (j + 1) c4)).own hown4 (hO4.ne_own hown4 (by decide))
      have hB5 := HB.out.trans (hB4.setCell (Nat.le_refl _) (.slice A4 (j + 1) c4) (p := ⟨gO, 1, none⟩))
      have e5 : wksCells ((ord.take j).map (labWk ws)) ++ [.int .i64 x.kind, .int .i64 x.at_, .string x.word] = wksCells ((ord.take (j + 1)).map (labWk ws)) := by rw [HST.out, wksCells_app]; rfl
      rw [e5] at hR5
      have HR5 := Lib.hid hR5
      have HB5 := Lib.hid hB5
      clear hO4 hB4 hown4 hgrow4 k2 k4 k5 hO2 hr2 hn2 hsz2 hB2 hR5 hB5 e5 f4 q4 s4 hnil4 hor4 s1 s2 s3 c0 c1 c2
      go_wp2
      go_roundw
      case rel => exact ⟨j + 1, A4, c4, by omega, by go_num, Lib.hid (by first | exact hO5.out | exact hO5.out.drew), Lib.hid (by first | exact HR5.out | exact own_below HR5.out (Below.drew (Below.refl _ _))), Lib.hid (by first | exact HB5.out | exact HB5.out.drew)⟩
      case measure => first | (simp [intOf]; done) | (simp [intOf]; omega)
    · obtain rfl : k = j := by omega
      have M2 := L2.out.below HB.out hwO
      have y0 : wo.cell? ⟨gO, 0, none⟩ = some (.int .i64 p) := HO.out.cell 0
      have y1 : wo.cell? ⟨gO, 1, none⟩ = some (.slice X k cx) := HO.out.cell 1
      have z0 : wo.cell? ⟨w.heap.size + 1, 0, none⟩ = some (.int .i64 0) := M2.cell 0
      have z1 : wo.cell? ⟨w.heap.size + 1, 1, none⟩ = some (.slice none 0 0) := M2.cell 1
      have f0 := M2.free 0
      have f1 := M2.free 1
      have qm := M2.lt
      have HRE : Hid ((ord.take k).map (labWk ws) = reW ws ord) := by show _ = _; rw [List.take_of_length_le (by rw [HK.out]; exact Nat.le_refl _)]; rfl
      go_wp2
      have M3 := (M2.set 0 (.int .i64 p)).set 1 (.slice X k cx)
      have hBt := (But.set (w.heap.size + 1) wo 0 (.int .i64 p)).trans (But.set (w.heap.size + 1) _ 1 (.slice X k cx))
      have hrow := hBt.own HR.out (M2.ne_own HR.out (by decide))
      rw [HRE.out] at hrow
      have hcx := own_caps hrow
      refine post_cell_tmp M3 rfl rfl rfl rfl Try.underlying24 (by kernel_rfl) ⟨X, k, cx, rfl, own_rdW hrow, by unfold reW; rw [List.length_map]; exact HK.out, hcx.1, hcx.2, ?_⟩
      exact Bo.trans (hBt.below (by omega) (by omega))
end Go.Proofs.Ytdimfbmbomgiaaa
