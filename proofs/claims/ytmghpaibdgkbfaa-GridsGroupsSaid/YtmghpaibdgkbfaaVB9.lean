/-
  Contracts of chapter 6: Group, the program's.
-/
import Derived.Test.YtmghpaibdgkbfaaVB3
import Derived.Test.YtmghpaibdgkbfaaVB8
namespace Go.Proofs.Ytmghpaibdgkbfaa
open Go.RowKit
def conj (m x : La.Mat) : La.Mat := La.mul (La.mul m x) (La.inv m)
theorem inv_in {m : La.Mat} (hu : La.unit m) (h : ((-10000 ≤ m.a ∧ m.a ≤ 10000) ∧ (-10000 ≤ m.c ∧ m.c ≤ 10000)) ∧ ((-10000 ≤ m.b ∧ m.b ≤ 10000) ∧ (-10000 ≤ m.d ∧ m.d ≤ 10000))) : In6 10000 (La.inv m).a ∧ In6 10000 (La.inv m).b ∧ In6 10000 (La.inv m).c ∧ In6 10000 (La.inv m).d := by
  show In6 10000 (La.det m * m.d) ∧ In6 10000 (-La.det m * m.b) ∧ In6 10000 (-La.det m * m.c) ∧ In6 10000 (La.det m * m.a)
  rcases hu with hu | hu <;> rw [hu] <;> (refine ⟨⟨?_, ?_⟩, ⟨?_, ?_⟩, ⟨?_, ?_⟩, ⟨?_, ?_⟩⟩ <;> omega)
theorem mul_in {m x : La.Mat} (h : ((-10000 ≤ m.a ∧ m.a ≤ 10000) ∧ (-10000 ≤ m.c ∧ m.c ≤ 10000)) ∧ ((-10000 ≤ m.b ∧ m.b ≤ 10000) ∧ (-10000 ≤ m.d ∧ m.d ≤ 10000))) (k : (-1 ≤ x.a ∧ x.a ≤ 1) ∧ (-1 ≤ x.b ∧ x.b ≤ 1) ∧ (-1 ≤ x.c ∧ x.c ≤ 1) ∧ (-1 ≤ x.d ∧ x.d ≤ 1)) : In6 20000 (La.mul m x).a ∧ In6 20000 (La.mul m x).b ∧ In6 20000 (La.mul m x).c ∧ In6 20000 (La.mul m x).d := by
  obtain ⟨⟨fa, fc⟩, ⟨fb, fd⟩⟩ := h
  obtain ⟨ka, kb, kc, kd⟩ := k
  have e1 := mb 10000 1 10000 fa ka (by decide)
  have e2 := mb 10000 1 10000 fb kc (by decide)
  have e3 := mb 10000 1 10000 fa kb (by decide)
  have e4 := mb 10000 1 10000 fb kd (by decide)
  have e5 := mb 10000 1 10000 fc ka (by decide)
  have e6 := mb 10000 1 10000 fd kc (by decide)
  have e7 := mb 10000 1 10000 fc kb (by decide)
  have e8 := mb 10000 1 10000 fd kd (by decide)
  show In6 20000 (m.a * x.a + m.b * x.c) ∧ In6 20000 (m.a * x.b + m.b * x.d) ∧ In6 20000 (m.c * x.a + m.d * x.c) ∧ In6 20000 (m.c * x.b + m.d * x.d)
  refine ⟨⟨?_, ?_⟩, ⟨?_, ?_⟩, ⟨?_, ?_⟩, ⟨?_, ?_⟩⟩ <;> omega
def GroupQ (a b c : Int) (e : Ending) (w' : World) : Prop := ∃ (l : La.Lat) (m : La.Mat) (A : Option Addr) (cp : Nat) (ms : List La.Mat), La.St ⟨a, b, c⟩ l m ∧ La.Red l ∧ ms.Perm ((grp l 81).map (conj m)) ∧ (∀ (i j : Nat) (x y : La.Mat), i < j → ms[i]? = some x → ms[j]? = some y → ¬ ordI y x < 0) ∧ e = .returned (.tuple #[.slice A ms.length cp, .int .i64 0]) ∧ RdM4 w' w'.heap.size A ms
set_option maxRecDepth 100000 in
set_option maxHeartbeats 1000000 in
theorem groupNC (a b c : Int) (w : World) (h : okL a b c = false) : Calls Try.prog 30 #[vL a b c] w fun e w' => e = .returned (.tuple #[.slice none 0 0, .int .i64 2]) ∧ Below w.heap.size w w' := by
  have CC := Lib.hid (fun W => checkC a b c W)
  rw [show errL a b c = 2 from if_neg (by rw [h]; decide)] at CC
  have B0 := Lib.hid (boxW_below [cL a b c] w)
  go_enter Try.func30, Try.ntmps30
  go_wp2_with fail
  refine (CC.out _).mono ?_
  rintro e w1 ⟨rfl, hb1⟩
  go_wp2
  go_ret2
  exact ⟨rfl, bvia B0.out hb1⟩
set_option maxRecDepth 100000 in
set_option maxHeartbeats 4000000 in
theorem groupTC (a b c : Int) (w : World) (h : okL a b c = true) : Calls Try.prog 30 #[vL a b c] w fun e w' => GroupQ a b c e w' ∧ Below w.heap.size w w' := by
  have CC := Lib.hid (fun W => checkC a b c W)
  rw [show errL a b c = 0 from if_pos h] at CC
  have CR := Lib.hid (fun W => reduceC a b c W h)
  have HOK := Lib.hid h
  clear h
  have G0 : Hid (Has (boxW w [cL a b c]) (w.heap.size) 23 [.int .i64 a, .int .i64 b, .int .i64 c]) := box_has [cL a b c] (w := w) (Below.refl _ _) (i := 0) rfl
  have B0 := Lib.hid (boxW_below [cL a b c] w)
  obtain ⟨W1, hW1⟩ : ∃ W1, W1 = boxW w [cL a b c] := ⟨_, rfl⟩
  rw [← hW1] at G0 B0
  go_enter Try.func30, Try.ntmps30
  go_upto_region 1 with (fail)
  rw [show w.alloc (.cells #[.int .i64 a, .int .i64 b, .int .i64 c] 23) = W1 from hW1.symm]
  clear hW1
  have c0 : W1.cell? ⟨w.heap.size, 0, none⟩ = some (.int .i64 a) := G0.out.cell 0
  have c1 : W1.cell? ⟨w.heap.size, 1, none⟩ = some (.int .i64 b) := G0.out.cell 1
  have c2 : W1.cell? ⟨w.heap.size, 2, none⟩ = some (.int .i64 c) := G0.out.cell 2
  go_wp2_with fail
  refine (CC.out _).mono ?_
  rintro e w1 ⟨rfl, hb1⟩
  replace G0 := Lib.hid (G0.out.below hb1 G0.out.lt)
  replace B0 := Lib.hid (bvia B0.out hb1)
  clear hb1 c0 c1 c2
  have c0 : w1.cell? ⟨w.heap.size, 0, none⟩ = some (.int .i64 a) := G0.out.cell 0
  have c1 : w1.cell? ⟨w.heap.size, 1, none⟩ = some (.int .i64 b) := G0.out.cell 1
  have c2 : w1.cell? ⟨w.heap.size, 2, none⟩ = some (.int .i64 c) := G0.out.cell 2
  go_wp2_with fail
  refine (CR.out _).mono ?_
  rintro e w2 ⟨⟨l, m, rfl, ST, RD⟩, hb2⟩
  replace G0 := Lib.hid (G0.out.below hb2 G0.out.lt)
  replace B0 := Lib.hid (bvia B0.out hb2)
  clear hb2 c0 c1 c2
  have HST := Lib.hid ST
  have HRD := Lib.hid RD
  obtain ⟨hv, hA, hC⟩ := okL_val HOK.out
  have HF := Lib.hid (ST.fit hv hA hC)
  have hla : In6 10000 l.a := ⟨by have := ST.v.a1; omega, ST.ba⟩
  have hlc : In6 10000 l.c := ⟨by have := ST.v.c1; omega, ST.bc⟩
  have hlb : In6 10000 l.b := ST.v.b_lt ST.ba ST.bc
  have CG : Hid (∀ W : World, _) := Lib.hid (fun W => groupC l.a l.b l.c W hla hlb hlc)
  have hlt0 := G0.out.lt
  clear ST RD hv hA hC hla hlb hlc CC CR
  have D1 := Lib.hid ((Below.refl w2.heap.size w2).alloc (Nat.le_refl _) (.cells #[.int .i64 l.a, .int .i64 l.b, .int .i64 l.c] 23))
  have D2 := Lib.hid (D1.out.alloc (by simp) (.cells #[.int .i64 m.a, .int .i64 m.b, .int .i64 m.c, .int .i64 m.d] 40))
  have G6 : Hid (Has ((w2.alloc (.cells #[.int .i64 l.a, .int .i64 l.b, .int .i64 l.c] 23)).alloc (.cells #[.int .i64 m.a, .int .i64 m.b, .int .i64 m.c, .int .i64 m.d] 40)) (w2.heap.size) 23 [.int .i64 l.a, .int .i64 l.b, .int .i64 l.c]) := Has.alloc (Has.new rfl) _
  have G7 : Hid (Has ((w2.alloc (.cells #[.int .i64 l.a, .int .i64 l.b, .int .i64 l.c] 23)).alloc (.cells #[.int .i64 m.a, .int .i64 m.b, .int .i64 m.c, .int .i64 m.d] 40)) (w2.heap.size + 1) 40 [.int .i64 m.a, .int .i64 m.b, .int .i64 m.c, .int .i64 m.d]) := Has.new2 rfl
  replace B0 := Lib.hid (bvia B0.out D2.out)
  clear D1 D2 G0
  go_upto_region 5 with (fail)
  generalize (w2.alloc (.cells #[.int .i64 l.a, .int .i64 l.b, .int .i64 l.c] 23)).alloc (.cells #[.int .i64 m.a, .int .i64 m.b, .int .i64 m.c, .int .i64 m.d] 40) = W3 at *
  have hw2 : w.heap.size < w2.heap.size := hlt0
  generalize w2.heap.size = K at *
  have HLT := Lib.hid G7.out.lt
  have c0 : W3.cell? ⟨K, 0, none⟩ = some (.int .i64 l.a) := G6.out.cell 0
  have c1 : W3.cell? ⟨K, 1, none⟩ = some (.int .i64 l.b) := G6.out.cell 1
  have c2 : W3.cell? ⟨K, 2, none⟩ = some (.int .i64 l.c) := G6.out.cell 2
  go_wp2_with fail
  refine (CG.out _).mono ?_
  rintro e w4 ⟨⟨A, cp, rfl, HO⟩, hb4⟩
  replace G6 := Lib.hid (G6.out.below hb4 G6.out.lt)
  replace G7 := Lib.hid (G7.out.below hb4 G7.out.lt)
  replace B0 := Lib.hid (bvia B0.out hb4)
  obtain ⟨n, hn⟩ : ∃ n, n = (grp l 81).length := ⟨_, rfl⟩
  have hn1 : 0 < n := by rw [hn]; exact grp_pos l
  have hn2 : n ≤ 81 := by rw [hn]; exact grp_len l 81
  rw [show (⟨l.a, l.b, l.c⟩ : La.Lat) = l from rfl, ← hn] at HO
  rw [show (⟨l.a, l.b, l.c⟩ : La.Lat) = l from rfl, ← hn]
  have HN := Lib.hid hn
  obtain ⟨g, T, rfl, hg, HG, hcp⟩ := own_has HO hn1
  have hKg : K + 1 < g := Nat.lt_of_lt_of_le HLT.out hg
  have HI : Hid (RedI w g K (K + 1) (msC (stL (conj m) (grp l 81) 0) ++ T) l m w4) := ⟨by rw [stL_zero]; exact HG, G6.out, G7.out, B0.out⟩
  have jn : (0 : Int) < (n : Int) := by omega
  clear hn HO HG hg HLT hb4 G6 G7 B0 CG c0 c1 c2
  go_wp2
  go_loopw [23] (fun i wr => ∃ k : Nat, k ≤ n ∧ i = .int .i64 (k : Int) ∧ Hid (RedI w g K (K + 1) (msC (stL (conj m) (grp l 81) k) ++ T) l m wr)) (fun i _ => n - (intOf i).toNat)
  case atStart => exact ⟨0, Nat.zero_le _, rfl, HI⟩
  case round =>
    clear HI
    obtain ⟨k, hk, rfl, HI⟩ := hrel
    obtain ⟨wo, rfl⟩ : ∃ wo : World, wo = wr := ⟨_, rfl⟩
    by_cases hlt : k < n
    · have jk : (k : Int) < (n : Int) := by omega
      have ik : IntKind.i64.wrap ((k : Int) + 1) = (k : Int) + 1 := IntWalk.i64_in _ (by omega)
      obtain ⟨x, hx⟩ := get_of_lt (l := grp l 81) (k := k) (by rw [← HN.out]; exact hlt)
      have hS := msC_get (show (stL (conj m) (grp l 81) k)[k]? = some x by rw [stL_split hx, List.append_assoc, List.getElem?_append_right (by simp; omega)]; simp; rw [show k - min k (grp l 81).length = 0 by have := lt_of_get hx; omega]; rfl) T
      have HX := Lib.hid (stL_set (f := conj m) hx T)
      have hxi := (grp_mem (List.mem_of_getElem? hx)).1
      have hmi := mul_in HF.out hxi
      have hii := inv_in HST.out.u HF.out
      have CI : Hid (∀ W : World, Calls Try.prog 70 #[vM m.a m.b m.c m.d] W fun e w' => e = .returned (vM (La.inv m).a (La.inv m).b (La.inv m).c (La.inv m).d) ∧ Below W.heap.size W w') := Lib.hid (fun W => inverseC m.a m.b m.c m.d 10000 W HF.out.1.1 HF.out.2.1 HF.out.1.2 HF.out.2.2 (by decide) HST.out.u)
      have CT2 : Hid (∀ W : World, Calls Try.prog 65 #[vM (La.mul m x).a (La.mul m x).b (La.mul m x).c (La.mul m x).d, vM (La.inv m).a (La.inv m).b (La.inv m).c (La.inv m).d] W fun e w' => e = .returned (vM (conj m x).a (conj m x).b (conj m x).c (conj m x).d) ∧ Below W.heap.size W w') := Lib.hid (fun W => timesC (La.mul m x).a (La.mul m x).b (La.mul m x).c (La.mul m x).d (La.inv m).a (La.inv m).b (La.inv m).c (La.inv m).d 20000 10000 W hmi.1 hmi.2.1 hmi.2.2.1 hmi.2.2.2 hii.1 hii.2.1 hii.2.2.1 hii.2.2.2 (by decide))
      obtain ⟨xa, xb, xc, xd⟩ := hxi
      clear hmi hii
      have e0 := hS 0 (by decide)
      have e1 := hS 1 (by decide)
      have e2 := hS 2 (by decide)
      have e3 := hS 3 (by decide)
      obtain ⟨⟨fa, fc⟩, ⟨fb, fd⟩⟩ := HF.out
      have CT : Hid (∀ W : World, Calls Try.prog 65 #[vM m.a m.b m.c m.d, vM x.a x.b x.c x.d] W fun e w' => e = .returned (vM (La.mul m x).a (La.mul m x).b (La.mul m x).c (La.mul m x).d) ∧ Below W.heap.size W w') := Lib.hid (fun W => timesC m.a m.b m.c m.d x.a x.b x.c x.d 10000 1 W fa fb fc fd xa xb xc xd (by decide))
      have hmx : mC (conj m x) = mC (conj m x) := rfl
      have HL : Hid (k * 4 + 4 ≤ (msC (stL (conj m) (grp l 81) k) ++ T).length) := by show _ ≤ _; rw [List.length_append, msC_len, stL_len, ← HN.out]; omega
      have HMX := Lib.hid hmx
      clear hS hx xa xb xc xd fa fb fc fd hmx
      generalize conj m x = y at *
      generalize La.mul m x = z at *
      generalize La.inv m = v at *
      go_upto_region 9 with (fail)
      refine wp_region_store [.q, .q, .q, .q, .q, .q, .q, .q, .q, .q, .q, .q, .st 0] 12 4 ?aH
        (fun W => RedI w g K (K + 1) (msC (stL (conj m) (grp l 81) k) ++ T) l m W)
        (fun W => RedI w g K (K + 1) (msC (stL (conj m) (grp l 81) (k + 1)) ++ T) l m W)
        (by kernel_rfl) (by kernel_rfl) (HI.out.next ⟨rfl, rfl, rfl, Nat.le_refl _, fun _ _ => rfl⟩) (fun W W' h hb => h.next hb) ?hq ?hS ?he
      case hq =>
        intro w5 h5
        have c0 : w5.cell? ⟨K + 1, 0, none⟩ = some (.int .i64 m.a) := h5.mat.cell 0
        have c1 : w5.cell? ⟨K + 1, 1, none⟩ = some (.int .i64 m.b) := h5.mat.cell 1
        have c2 : w5.cell? ⟨K + 1, 2, none⟩ = some (.int .i64 m.c) := h5.mat.cell 2
        have c3 : w5.cell? ⟨K + 1, 3, none⟩ = some (.int .i64 m.d) := h5.mat.cell 3
        have d0 : w5.cell? ⟨g, k * 4, none⟩ = some (.int .i64 x.a) := (h5.own.cell _).trans e0
        have d1 : w5.cell? ⟨g, k * 4 + 1, none⟩ = some (.int .i64 x.b) := (h5.own.cell _).trans e1
        have d2 : w5.cell? ⟨g, k * 4 + 2, none⟩ = some (.int .i64 x.c) := (h5.own.cell _).trans e2
        have d3 : w5.cell? ⟨g, k * 4 + 3, none⟩ = some (.int .i64 x.d) := (h5.own.cell _).trans e3
        have q0 := h5.mat.lt
        have q1 := h5.own.lt
        have hxc := fun (x : Ext w5) => x.cell
        clear h5
        show wpQuiet _ _ _ _ [_, _, _, _, _, _, _, _, _, _, _, _] _
        repeat (go_big_quiet_step ((first | (go_at_call 70; exact ext_call (CI.out _)) | (go_at_call_of 65 (Value.agg #[Value.int .i64 x.a, Value.int .i64 x.b, Value.int .i64 x.c, Value.int .i64 x.d]); exact ext_call (CT.out _)) | (go_at_call 65; exact ext_call (CT2.out _)))))
        refine wpQuiet_nil ?_
        rfl
      case hS =>
        intro o ho W h
        have hop : o.op = .store 40 (.tmp 37) (.tmp 36) := by rw [← Option.some.inj ho]
        obtain ⟨W', h1, h2, h3⟩ := store_mid (P := Try.prog) (x := .tmp 37) (y := .tmp 36) (vs := mC y) (ty := 40) (g := g) (k := k * 4) (cs := msC (stL (conj m) (grp l 81) k) ++ T) hop (b := ?aH) (W := W) rfl rfl (by kernel_rfl) HL.out (one_mat y) h.own
        rw [HX.out] at h2
        exact ⟨W', h1, h.put h3 h2 (by omega) (by omega) (by omega)⟩
      case he =>
        intro W h
        go_wp2
        refine ⟨⟨k + 1, by omega, by rw [Int.natCast_add]; rfl, Lib.hid h⟩, ?_⟩
        first | (simp [intOf]; done) | (simp [intOf]; omega)
    · obtain rfl : k = n := by omega
      have jk : ¬ (k : Int) < (k : Int) := by omega
      have HE : Hid (RedI w g K (K + 1) (msC ((grp l 81).map (conj m)) ++ T) l m wo) := by
        have := HI.out
        rw [stL_all (by rw [← HN.out]; exact Nat.le_refl _)] at this
        exact this
      have CS := Lib.hid (fun W (hh : Has W g 40 (msC ((grp l 81).map (conj m)) ++ T)) => sortMatC g k cp ((grp l 81).map (conj m)) T W hh (by rw [List.length_map, HN.out]) (by omega))
      clear HI
      go_wp2_with fail
      refine (CS.out _ HE.out.own).mono ?_
      rintro e w5 ⟨rfl, ⟨ms, hp, hs, hrd⟩, hbut⟩
      have hlen : ms.length = k := by rw [hp.length_eq, List.length_map, HN.out]
      have hgw : w.heap.size ≤ g := by omega
      have BB := Lib.hid (HE.out.below.trans (hbut.below hgw HE.out.below.size))
      have HP := Lib.hid hp
      have HSo := Lib.hid hs
      have HRd := Lib.hid hrd
      clear hp hs hrd hbut
      subst hlen
      go_wp2
      go_ret2
      exact ⟨⟨l, m, some ⟨g, 0, none⟩, cp, ms, HST.out, HRD.out, HP.out, fun i j x y h1 h2 h3 => Int.not_lt.2 (HSo.out i j x y h1 h2 h3), rfl, HRd.out⟩, BB.out⟩
end Go.Proofs.Ytmghpaibdgkbfaa
/-
  Contracts of chapter 6: bounds of matrices and moves, the program's and the document's.
-/
namespace Go.Proofs.Ytmghpaibdgkbfaa
open Go.RowKit
abbrev vV (a b c d u v : Int) : Value := .agg #[.int .i64 a, .int .i64 b, .int .i64 c, .int .i64 d, .int .i64 u, .int .i64 v]
abbrev cV (a b c d u v : Int) : List Value × TypeId := ([.int .i64 a, .int .i64 b, .int .i64 c, .int .i64 d, .int .i64 u, .int .i64 v], 58)
def okG (x : Int) : Bool := decide (-10000 ≤ x) && decide (x ≤ 10000)
theorem okG_iff (x : Int) : okG x = true ↔ In6 10000 x := by unfold okG; simp
theorem okG_out (x : Int) : (decide (x < -10000) || decide (10000 < x)) = !okG x := by
  cases h : okG x with
  | true =>
    have := (okG_iff x).1 h
    rw [decide_eq_false (by omega), decide_eq_false (by omega)]; rfl
  | false =>
    have hn : ¬ In6 10000 x := fun q => by rw [(okG_iff x).2 q] at h; cases h
    by_cases a1 : x < -10000
    · rw [decide_eq_true a1]; rfl
    · rw [decide_eq_true (show 10000 < x by omega), Bool.or_true]; rfl
def okM (a b c d : Int) : Bool := okG a && (okG b && (okG c && okG d))
theorem okM_iff (a b c d : Int) : okM a b c d = true ↔ In6 10000 a ∧ In6 10000 b ∧ In6 10000 c ∧ In6 10000 d := by
  unfold okM
  rw [Bool.and_eq_true, Bool.and_eq_true, Bool.and_eq_true, okG_iff, okG_iff, okG_iff, okG_iff]
theorem outG (x : Int) (w : World) : Calls Try.prog 52 #[.int .i64 x, .int .i64 10000] w fun e w' => e = .returned (.bool (!okG x)) ∧ w = w' := by
  have := outC x 10000 w (by omega)
  rw [okG_out] at this
  exact this
theorem fromG (x : Int) (w : World) : Calls Try.prog 53 #[.int .i64 x, .int .i64 (-10000), .int .i64 10000] w fun e w' => e = .returned (.bool (okG x)) ∧ w = w' := fromC x (-10000) 10000 w
set_option maxRecDepth 100000 in
set_option maxHeartbeats 1000000 in
theorem matrixC (a b c d : Int) (w : World) : Calls Try.prog 72 #[vM a b c d] w fun e w' => e = .returned (.bool (okM a b c d)) ∧ Below w.heap.size w w' := by
  have Ca := Lib.hid (fun W => outG a W)
  have Cb := Lib.hid (fun W => outG b W)
  have Cc := Lib.hid (fun W => outG c W)
  have Cd := Lib.hid (fun W => outG d W)
  unfold okM
  cases ha : okG a with
  | false =>
    rw [ha] at Ca
    rw [Bool.false_and]
    clear ha
    go_enter Try.func72, Try.ntmps72
    go_wp2_with fail
    refine (Ca.out _).mono ?_
    rintro e w1 ⟨rfl, rfl⟩
    go_wp2
    go_ret
    exact ⟨rfl, by go_grown⟩
  | true =>
  rw [ha] at Ca
  rw [Bool.true_and]
  clear ha
  cases hb : okG b with
  | false =>
    rw [hb] at Cb
    rw [Bool.false_and]
    clear hb
    go_enter Try.func72, Try.ntmps72
    go_wp2_with fail
    refine (Ca.out _).mono ?_
    rintro e w1 ⟨rfl, rfl⟩
    go_wp2_with fail
    refine (Cb.out _).mono ?_
    rintro e w1 ⟨rfl, rfl⟩
    go_wp2
    go_ret
    exact ⟨rfl, by go_grown⟩
  | true =>
  rw [hb] at Cb
  rw [Bool.true_and]
  clear hb
  cases hc : okG c with
  | false =>
    rw [hc] at Cc
    rw [Bool.false_and]
    clear hc
    go_enter Try.func72, Try.ntmps72
    go_wp2_with fail
    refine (Ca.out _).mono ?_
    rintro e w1 ⟨rfl, rfl⟩
    go_wp2_with fail
    refine (Cb.out _).mono ?_
    rintro e w1 ⟨rfl, rfl⟩
    go_wp2_with fail
    refine (Cc.out _).mono ?_
    rintro e w1 ⟨rfl, rfl⟩
    go_wp2
    go_ret
    exact ⟨rfl, by go_grown⟩
  | true =>
  rw [hc] at Cc
  rw [Bool.true_and]
  clear hc
  generalize okG d = r at *
  go_enter Try.func72, Try.ntmps72
  go_wp2_with fail
  refine (Ca.out _).mono ?_
  rintro e w1 ⟨rfl, rfl⟩
  go_wp2_with fail
  refine (Cb.out _).mono ?_
  rintro e w1 ⟨rfl, rfl⟩
  go_wp2_with fail
  refine (Cc.out _).mono ?_
  rintro e w1 ⟨rfl, rfl⟩
  go_wp2_with fail
  refine (Cd.out _).mono ?_
  rintro e w1 ⟨rfl, rfl⟩
  go_wp2
  go_ret
  exact ⟨by first | rfl | (cases r <;> rfl), by go_grown⟩
set_option maxRecDepth 100000 in
set_option maxHeartbeats 1000000 in
theorem rmatrixC (a b c d : Int) (w : World) : Calls Try.prog 26 #[vM a b c d] w fun e w' => e = .returned (.bool (okM a b c d)) ∧ Below w.heap.size w w' := by
  have Ca := Lib.hid (fun W => fromG a W)
  have Cb := Lib.hid (fun W => fromG b W)
  have Cc := Lib.hid (fun W => fromG c W)
  have Cd := Lib.hid (fun W => fromG d W)
  unfold okM
  cases ha : okG a with
  | false =>
    rw [ha] at Ca
    rw [Bool.false_and]
    clear ha
    go_enter Try.func26, Try.ntmps26
    go_wp2_with fail
    refine (Ca.out _).mono ?_
    rintro e w1 ⟨rfl, rfl⟩
    go_wp2
    go_ret
    exact ⟨rfl, by go_grown⟩
  | true =>
  rw [ha] at Ca
  rw [Bool.true_and]
  clear ha
  cases hb : okG b with
  | false =>
    rw [hb] at Cb
    rw [Bool.false_and]
    clear hb
    go_enter Try.func26, Try.ntmps26
    go_wp2_with fail
    refine (Ca.out _).mono ?_
    rintro e w1 ⟨rfl, rfl⟩
    go_wp2_with fail
    refine (Cb.out _).mono ?_
    rintro e w1 ⟨rfl, rfl⟩
    go_wp2
    go_ret
    exact ⟨rfl, by go_grown⟩
  | true =>
  rw [hb] at Cb
  rw [Bool.true_and]
  clear hb
  cases hc : okG c with
  | false =>
    rw [hc] at Cc
    rw [Bool.false_and]
    clear hc
    go_enter Try.func26, Try.ntmps26
    go_wp2_with fail
    refine (Ca.out _).mono ?_
    rintro e w1 ⟨rfl, rfl⟩
    go_wp2_with fail
    refine (Cb.out _).mono ?_
    rintro e w1 ⟨rfl, rfl⟩
    go_wp2_with fail
    refine (Cc.out _).mono ?_
    rintro e w1 ⟨rfl, rfl⟩
    go_wp2
    go_ret
    exact ⟨rfl, by go_grown⟩
  | true =>
  rw [hc] at Cc
  rw [Bool.true_and]
  clear hc
  generalize okG d = r at *
  go_enter Try.func26, Try.ntmps26
  go_wp2_with fail
  refine (Ca.out _).mono ?_
  rintro e w1 ⟨rfl, rfl⟩
  go_wp2_with fail
  refine (Cb.out _).mono ?_
  rintro e w1 ⟨rfl, rfl⟩
  go_wp2_with fail
  refine (Cc.out _).mono ?_
  rintro e w1 ⟨rfl, rfl⟩
  go_wp2_with fail
  refine (Cd.out _).mono ?_
  rintro e w1 ⟨rfl, rfl⟩
  go_wp2
  go_ret
  exact ⟨by first | rfl | (cases r <;> rfl), by go_grown⟩
def okV (a b c d u v : Int) : Bool := okM a b c d && okP u v
theorem okPs_one (x y : Int) : okPs [(x, y)] = okP x y := by unfold okPs; simp
set_option maxRecDepth 100000 in
set_option maxHeartbeats 1000000 in
theorem moveC (a b c d u v : Int) (w : World) : Calls Try.prog 75 #[vV a b c d u v] w fun e w' => e = .returned (.bool (okV a b c d u v)) ∧ Below w.heap.size w w' := by
  have CM := Lib.hid (fun W => matrixC a b c d W)
  have F0 := Lib.hid (fun (W : World) (hb : Below (w.heap.size + 1) (boxW w [cV a b c d u v]) W) => fun i x h => box_has [cV a b c d u v] hb (i := i) (c := x) h)
  have S0 : Hid ((boxW w [cV a b c d u v]).heap.size = w.heap.size + 1) := boxW_size [cV a b c d u v] w
  have B0 := Lib.hid (boxW_below [cV a b c d u v] w)
  unfold okV
  cases hm : okM a b c d with
  | false =>
    rw [hm] at CM
    rw [Bool.false_and]
    clear hm
    go_enter Try.func75, Try.ntmps75
    go_wp2_with fail
    refine (CM.out _).mono ?_
    rintro e w1 ⟨rfl, hb1⟩
    go_wp2
    go_ret
    exact ⟨rfl, bvia B0.out hb1⟩
  | true =>
    rw [hm] at CM
    rw [Bool.true_and]
    clear hm
    have CP := Lib.hid (fun (W : World) => pointC (some ⟨W.heap.size, 0, none⟩) 1 1 [(u, v)] (W.alloc (.cells #[.int .i64 u, .int .i64 v] 25)) (rdP_new [(u, v)]) rfl (by decide))
    rw [okPs_one] at CP
    generalize okP u v = r at *
    go_enter Try.func75, Try.ntmps75
    go_wp2_with fail
    refine (CM.out _).mono ?_
    rintro e w1 ⟨rfl, hb1⟩
    have B1 := Lib.hid (bvia B0.out hb1)
    have hb1' : Below (w.heap.size + 1) (boxW w [cV a b c d u v]) w1 := by rw [← S0.out]; exact hb1
    have g0 := F0.out w1 hb1' 0 _ rfl
    have x4 : w1.cell? ⟨w.heap.size, 4, none⟩ = some (.int .i64 u) := g0.cell 4
    have x5 : w1.cell? ⟨w.heap.size, 5, none⟩ = some (.int .i64 v) := g0.cell 5
    clear hb1 hb1' g0
    go_wp2_with fail
    refine (CP.out _).mono ?_
    rintro e w2 ⟨rfl, hb2⟩
    go_wp2
    go_ret
    exact ⟨rfl, bvia B1.out (bvia (by first | exact Below.refl _ _ | go_grown) hb2)⟩
set_option maxRecDepth 100000 in
set_option maxHeartbeats 1000000 in
theorem rmoveC (a b c d u v : Int) (w : World) : Calls Try.prog 77 #[vV a b c d u v] w fun e w' => e = .returned (.bool (okV a b c d u v)) ∧ Below w.heap.size w w' := by
  have CM := Lib.hid (fun W => rmatrixC a b c d W)
  have F0 := Lib.hid (fun (W : World) (hb : Below (w.heap.size + 1) (boxW w [cV a b c d u v]) W) => fun i x h => box_has [cV a b c d u v] hb (i := i) (c := x) h)
  have S0 : Hid ((boxW w [cV a b c d u v]).heap.size = w.heap.size + 1) := boxW_size [cV a b c d u v] w
  have B0 := Lib.hid (boxW_below [cV a b c d u v] w)
  unfold okV
  cases hm : okM a b c d with
  | false =>
    rw [hm] at CM
    rw [Bool.false_and]
    clear hm
    go_enter Try.func77, Try.ntmps77
    go_wp2_with fail
    refine (CM.out _).mono ?_
    rintro e w1 ⟨rfl, hb1⟩
    go_wp2
    go_ret
    exact ⟨rfl, bvia B0.out hb1⟩
  | true =>
    rw [hm] at CM
    rw [Bool.true_and]
    clear hm
    have CP := Lib.hid (fun W => refP u v W)
    generalize okP u v = r at *
    go_enter Try.func77, Try.ntmps77
    go_wp2_with fail
    refine (CM.out _).mono ?_
    rintro e w1 ⟨rfl, hb1⟩
    have B1 := Lib.hid (bvia B0.out hb1)
    have hb1' : Below (w.heap.size + 1) (boxW w [cV a b c d u v]) w1 := by rw [← S0.out]; exact hb1
    have g0 := F0.out w1 hb1' 0 _ rfl
    have x4 : w1.cell? ⟨w.heap.size, 4, none⟩ = some (.int .i64 u) := g0.cell 4
    have x5 : w1.cell? ⟨w.heap.size, 5, none⟩ = some (.int .i64 v) := g0.cell 5
    clear hb1 hb1' g0
    go_wp2_with fail
    refine (CP.out _).mono ?_
    rintro e w2 ⟨rfl, hb2⟩
    go_wp2
    go_ret
    exact ⟨rfl, bvia B1.out (bvia (by first | exact Below.refl _ _ | go_grown) hb2)⟩
end Go.Proofs.Ytmghpaibdgkbfaa
