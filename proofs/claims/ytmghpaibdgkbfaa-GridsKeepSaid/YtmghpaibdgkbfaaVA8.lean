/-
  Contracts of chapter 6: slices.SortFunc at matrices, in words of this proof.
-/
import Derived.Test.YtmghpaibdgkbfaaVA3
import Derived.Test.YtmghpaibdgkbfaaVA7
namespace Go.Proofs.Ytmghpaibdgkbfaa
open Go.RowKit Go.Shelf
theorem holds_mat {w : World} {g : Nat} {l : List La.Mat} {T : List Value} (hh : Has w g 40 (msC l ++ T)) : Go.Sort.HoldsK mC 4 w g 0 l.toArray := fun j hj => by
  have hj2 : j < l.length * 4 := by simpa using hj
  have hlt : j / 4 < l.length := by omega
  obtain ⟨x, hx⟩ := get_of_lt hlt
  have h1 := msC_get hx T (j % 4) (by omega)
  refine ⟨?_, hh.free _⟩
  rw [hh.cell, Nat.zero_add, show j = j / 4 * 4 + j % 4 by omega, h1, ← show j = j / 4 * 4 + j % 4 by omega]
  show _ = some (Go.Sort.flatK mC 4 l.toArray)[j]!
  rw [Go.Sort.get_flatK mC 4 l.toArray j (by simpa using hj2)]
  have h2 : l.toArray[j / 4]! = x := by
    rw [getElem!_pos l.toArray _ (by simpa using hlt)]
    rw [List.getElem?_eq_getElem hlt] at hx
    simpa using hx
  rw [h2]
  have h3 : j % 4 < (mC x).length := by rw [mC_len]; omega
  rw [getElem!_pos (mC x) _ h3, List.getElem?_eq_getElem h3]
theorem rd_holds {w : World} {g : Nat} {d : Array La.Mat} (hb : g < w.heap.size) (h : Go.Sort.HoldsK mC 4 w g 0 d) : RdM4 w w.heap.size (some ⟨g, 0, none⟩) d.toList := fun k m hk => by
  have hlt : k < d.size := by have := lt_of_get hk; simpa using this
  have hm : d[k]! = m := by
    rw [getElem!_pos d _ hlt]
    rw [Array.getElem?_toList, Array.getElem?_eq_getElem hlt] at hk
    exact Option.some.inj hk
  have c : ∀ j, j < 4 → w.cell? ⟨g, 0 + k * 4 + j, none⟩ = some ((mC m)[j]!) := fun j hj => by
    have hh := (h (k * 4 + j) (by simp; omega)).1
    rw [← Nat.add_assoc] at hh
    rw [hh]
    show some (Go.Sort.flatK mC 4 d)[k * 4 + j]! = _
    rw [Go.Sort.get_flatK mC 4 d _ (by omega), show (k * 4 + j) / 4 = k by omega, show (k * 4 + j) % 4 = j by omega, hm]
  exact ⟨g, 0, rfl, hb, c 0 (by decide), c 1 (by decide), c 2 (by decide), c 3 (by decide)⟩
theorem but_put {w : World} {g n : Nat} {d : Array La.Mat} {os : Array Obj} : But g w (sortWorldK mC 4 w g 0 n d os) := by
  refine ⟨rfl, rfl, rfl, ?_, fun k hk hne => ?_⟩
  · show w.heap.size ≤ ((Go.Sort.putRowK mC 4 (Go.Sort.ahead w n) g 0 d).heap ++ os).size
    rw [Array.size_append]
    have : (Go.Sort.putRowK mC 4 (Go.Sort.ahead w n) g 0 d).heap.size = w.heap.size := by unfold Go.Sort.putRowK; rw [Go.Sort.size_putRow]; rfl
    omega
  · show ((Go.Sort.putRowK mC 4 (Go.Sort.ahead w n) g 0 d).heap ++ os)[k]? = _
    have hs : (Go.Sort.putRowK mC 4 (Go.Sort.ahead w n) g 0 d).heap.size = w.heap.size := by unfold Go.Sort.putRowK; rw [Go.Sort.size_putRow]; rfl
    rw [Array.getElem?_append_left (by omega)]
    show (w.heap.modify g _)[k]? = _
    rw [Array.getElem?_modify, if_neg (fun e => hne (by rw [e]))]
set_option maxHeartbeats 1000000 in
theorem sortMatC (g n cp : Nat) (l : List La.Mat) (T : List Value) (w : World) (hh : Has w g 40 (msC l ++ T)) (hl : l.length = n) (hn : n ≤ 1000) :
    Calls Try.prog 71 #[.slice (some ⟨g, 0, none⟩) n cp, .func (.func 67) #[] #[]] w fun e w' => e = .returned (.tuple #[]) ∧ (∃ l' : List La.Mat, l'.Perm l ∧ (∀ (i j : Nat) (x y : La.Mat), i < j → l'[i]? = some x → l'[j]? = some y → ¬ ordI y x < 0) ∧ RdM4 w' w'.heap.size (some ⟨g, 0, none⟩) l') ∧ But g w w' := by
  have eg : ∀ args w, (callFunc 67 args).run Try.prog w = .ok (.enter 67 args) w := enters_of Try.func67 (by kernel_rfl) rfl
  have hH := holds_mat hh
  have hsz : l.toArray.size = n := by simpa using hl
  have hcon := AnyQ.slices_SortFunc sortMat 4 Try.isAgg40 Try.sizeOf40 mC (fun _ => rfl) (fun x v hv => one_mat x v hv) ordI swoMat 67 #[] g 0 cp l.toArray w eg (fun m os dk _ x y => orderMS x y _) hH hh.lt (by omega)
  rw [hsz] at hcon
  refine hcon.mono ?_
  rintro e w' ⟨he, d', m, os, hp, hs, rfl⟩
  obtain ⟨h1, _, h3⟩ := hp
  have hds : d'.size = n := by rw [h1, hsz]
  have hlt : g < (sortWorldK mC 4 w g 0 m d' os).heap.size := Nat.lt_of_lt_of_le hh.lt but_put.size
  refine ⟨he, ⟨d'.toList, ?_, fun i j x y hij hi hj => ?_, rd_holds hlt ?_⟩, but_put⟩
  · have e1 : d'.extract 0 n = d' := by rw [← hds, Array.extract_size]
    have e2 : l.toArray.extract 0 n = l.toArray := by rw [← hsz, Array.extract_size]
    rw [e1, e2] at h3
    exact h3
  · have hj2 := lt_of_get hj
    have hi2 := lt_of_get hi
    rw [Array.length_toList, hds] at hj2
    have := hs i j (Nat.zero_le _) hij hj2
    rw [getElem!_pos d' _ (by omega), getElem!_pos d' _ (by omega)] at this
    rw [Array.getElem?_toList, Array.getElem?_eq_getElem (by omega)] at hi hj
    rw [Option.some.inj hi, Option.some.inj hj] at this
    simpa [ltOf] using this
  · exact Go.Sort.holdsK_grow _ _ _ os g 0 d' (by unfold Go.Sort.putRowK; rw [Go.Sort.size_putRow]; exact hh.lt) (Go.Sort.holdsK_putRowK _ _ _ g 0 l.toArray d' hH h1)
end Go.Proofs.Ytmghpaibdgkbfaa
/-
  Contracts of chapter 6: Reduce, the program's.
-/
namespace Go.Proofs.Ytmghpaibdgkbfaa
open Go.RowKit
def redM (l : La.Lat) (m : La.Mat) : La.Mat := lstTo ((grp l 81).map (La.mul m)) ((grp l 81).length - 1)
set_option maxRecDepth 100000 in
set_option maxHeartbeats 1000000 in
theorem reduceNC (a b c : Int) (w : World) (h : okL a b c = false) : Calls Try.prog 24 #[vL a b c] w fun e w' => e = .returned (.tuple #[vL 0 0 0, vM 0 0 0 0, .int .i64 2]) ∧ Below w.heap.size w w' := by
  have CC := Lib.hid (fun W => checkC a b c W)
  rw [show errL a b c = 2 from if_neg (by rw [h]; decide)] at CC
  have G0 : Hid (Has (boxW w [cL a b c, ([.int .i64 0, .int .i64 0, .int .i64 0], 23), ([.int .i64 0, .int .i64 0, .int .i64 0, .int .i64 0], 40)]) (w.heap.size) 23 [.int .i64 a, .int .i64 b, .int .i64 c]) := box_has [cL a b c, ([.int .i64 0, .int .i64 0, .int .i64 0], 23), ([.int .i64 0, .int .i64 0, .int .i64 0, .int .i64 0], 40)] (w := w) (Below.refl _ _) (i := 0) rfl
  have G1 : Hid (Has (boxW w [cL a b c, ([.int .i64 0, .int .i64 0, .int .i64 0], 23), ([.int .i64 0, .int .i64 0, .int .i64 0, .int .i64 0], 40)]) (w.heap.size + 1) 23 [.int .i64 0, .int .i64 0, .int .i64 0]) := box_has [cL a b c, ([.int .i64 0, .int .i64 0, .int .i64 0], 23), ([.int .i64 0, .int .i64 0, .int .i64 0, .int .i64 0], 40)] (w := w) (Below.refl _ _) (i := 1) rfl
  have G2 : Hid (Has (boxW w [cL a b c, ([.int .i64 0, .int .i64 0, .int .i64 0], 23), ([.int .i64 0, .int .i64 0, .int .i64 0, .int .i64 0], 40)]) (w.heap.size + 1 + 1) 40 [.int .i64 0, .int .i64 0, .int .i64 0, .int .i64 0]) := box_has [cL a b c, ([.int .i64 0, .int .i64 0, .int .i64 0], 23), ([.int .i64 0, .int .i64 0, .int .i64 0, .int .i64 0], 40)] (w := w) (Below.refl _ _) (i := 2) rfl
  have B0 := Lib.hid (boxW_below [cL a b c, ([.int .i64 0, .int .i64 0, .int .i64 0], 23), ([.int .i64 0, .int .i64 0, .int .i64 0, .int .i64 0], 40)] w)
  obtain ⟨W1, hW1⟩ : ∃ W1, W1 = boxW w [cL a b c, ([.int .i64 0, .int .i64 0, .int .i64 0], 23), ([.int .i64 0, .int .i64 0, .int .i64 0, .int .i64 0], 40)] := ⟨_, rfl⟩
  rw [← hW1] at G0 G1 G2 B0
  go_enter Try.func24, Try.ntmps24
  go_upto_region 1 with (fail)
  rw [show ((w.alloc (.cells #[.int .i64 a, .int .i64 b, .int .i64 c] 23)).alloc (.cells #[.int .i64 0, .int .i64 0, .int .i64 0] 23)).alloc (.cells #[.int .i64 0, .int .i64 0, .int .i64 0, .int .i64 0] 40) = W1 from hW1.symm]
  clear hW1
  have c0 : W1.cell? ⟨w.heap.size, 0, none⟩ = some (.int .i64 a) := G0.out.cell 0
  have c1 : W1.cell? ⟨w.heap.size, 1, none⟩ = some (.int .i64 b) := G0.out.cell 1
  have c2 : W1.cell? ⟨w.heap.size, 2, none⟩ = some (.int .i64 c) := G0.out.cell 2
  go_wp2_with fail
  refine (CC.out _).mono ?_
  rintro e w1 ⟨rfl, hb1⟩
  replace G1 := Lib.hid (G1.out.below hb1 G1.out.lt)
  replace G2 := Lib.hid (G2.out.below hb1 G2.out.lt)
  replace B0 := Lib.hid (bvia B0.out hb1)
  clear hb1 c0 c1 c2
  have c0 : w1.cell? ⟨w.heap.size + 1, 0, none⟩ = some (.int .i64 0) := G1.out.cell 0
  have fc0 : w1.frozen? ⟨w.heap.size + 1, 0, none⟩ = false := G1.out.free 0
  have c1 : w1.cell? ⟨w.heap.size + 1, 1, none⟩ = some (.int .i64 0) := G1.out.cell 1
  have fc1 : w1.frozen? ⟨w.heap.size + 1, 1, none⟩ = false := G1.out.free 1
  have c2 : w1.cell? ⟨w.heap.size + 1, 2, none⟩ = some (.int .i64 0) := G1.out.cell 2
  have fc2 : w1.frozen? ⟨w.heap.size + 1, 2, none⟩ = false := G1.out.free 2
  have d0 : w1.cell? ⟨w.heap.size + 1 + 1, 0, none⟩ = some (.int .i64 0) := G2.out.cell 0
  have fd0 : w1.frozen? ⟨w.heap.size + 1 + 1, 0, none⟩ = false := G2.out.free 0
  have d1 : w1.cell? ⟨w.heap.size + 1 + 1, 1, none⟩ = some (.int .i64 0) := G2.out.cell 1
  have fd1 : w1.frozen? ⟨w.heap.size + 1 + 1, 1, none⟩ = false := G2.out.free 1
  have d2 : w1.cell? ⟨w.heap.size + 1 + 1, 2, none⟩ = some (.int .i64 0) := G2.out.cell 2
  have fd2 : w1.frozen? ⟨w.heap.size + 1 + 1, 2, none⟩ = false := G2.out.free 2
  have d3 : w1.cell? ⟨w.heap.size + 1 + 1, 3, none⟩ = some (.int .i64 0) := G2.out.cell 3
  have fd3 : w1.frozen? ⟨w.heap.size + 1 + 1, 3, none⟩ = false := G2.out.free 3
  go_wp2
  refine post_cell2_tmp (cs := [.int .i64 0, .int .i64 0, .int .i64 0]) (ds := [.int .i64 0, .int .i64 0, .int .i64 0, .int .i64 0]) (((((((G1.out.set 0 (.int .i64 0)).set 1 (.int .i64 0)).set 2 (.int .i64 0)).far (by omega) 0 _).far (by omega) 1 _).far (by omega) 2 _).far (by omega) 3 _) (((((((G2.out.far (by omega) 0 _).far (by omega) 1 _).far (by omega) 2 _).set 0 (.int .i64 0)).set 1 (.int .i64 0)).set 2 (.int .i64 0)).set 3 (.int .i64 0)) Try.results24 rfl rfl rfl rfl Try.underlying23 (by kernel_rfl) Try.underlying40 (by kernel_rfl) ⟨rfl, (((((((B0.out.setCell (p := ⟨w.heap.size + 1, 0, none⟩) (show w.heap.size ≤ w.heap.size + 1 by omega) _).setCell (p := ⟨w.heap.size + 1, 1, none⟩) (show w.heap.size ≤ w.heap.size + 1 by omega) _).setCell (p := ⟨w.heap.size + 1, 2, none⟩) (show w.heap.size ≤ w.heap.size + 1 by omega) _).setCell (p := ⟨w.heap.size + 1 + 1, 0, none⟩) (show w.heap.size ≤ w.heap.size + 1 + 1 by omega) _).setCell (p := ⟨w.heap.size + 1 + 1, 1, none⟩) (show w.heap.size ≤ w.heap.size + 1 + 1 by omega) _).setCell (p := ⟨w.heap.size + 1 + 1, 2, none⟩) (show w.heap.size ≤ w.heap.size + 1 + 1 by omega) _).setCell (p := ⟨w.heap.size + 1 + 1, 3, none⟩) (show w.heap.size ≤ w.heap.size + 1 + 1 by omega) _)⟩
set_option maxRecDepth 100000 in
set_option maxHeartbeats 4000000 in
theorem reduceTC (a b c : Int) (w : World) (h : okL a b c = true) : Calls Try.prog 24 #[vL a b c] w fun e w' => (∃ (l : La.Lat) (m : La.Mat), La.St ⟨a, b, c⟩ l m ∧ La.Red l ∧ e = .returned (.tuple #[vL l.a l.b l.c, vM (redM l m).a (redM l m).b (redM l m).c (redM l m).d, .int .i64 0])) ∧ Below w.heap.size w w' := by
  have CC := Lib.hid (fun W => checkC a b c W)
  rw [show errL a b c = 0 from if_pos h] at CC
  have CR := Lib.hid (fun W => reduceC a b c W h)
  have HOK := Lib.hid h
  clear h
  have G0 : Hid (Has (boxW w [cL a b c, ([.int .i64 0, .int .i64 0, .int .i64 0], 23), ([.int .i64 0, .int .i64 0, .int .i64 0, .int .i64 0], 40)]) (w.heap.size) 23 [.int .i64 a, .int .i64 b, .int .i64 c]) := box_has [cL a b c, ([.int .i64 0, .int .i64 0, .int .i64 0], 23), ([.int .i64 0, .int .i64 0, .int .i64 0, .int .i64 0], 40)] (w := w) (Below.refl _ _) (i := 0) rfl
  have G1 : Hid (Has (boxW w [cL a b c, ([.int .i64 0, .int .i64 0, .int .i64 0], 23), ([.int .i64 0, .int .i64 0, .int .i64 0, .int .i64 0], 40)]) (w.heap.size + 1) 23 [.int .i64 0, .int .i64 0, .int .i64 0]) := box_has [cL a b c, ([.int .i64 0, .int .i64 0, .int .i64 0], 23), ([.int .i64 0, .int .i64 0, .int .i64 0, .int .i64 0], 40)] (w := w) (Below.refl _ _) (i := 1) rfl
  have G2 : Hid (Has (boxW w [cL a b c, ([.int .i64 0, .int .i64 0, .int .i64 0], 23), ([.int .i64 0, .int .i64 0, .int .i64 0, .int .i64 0], 40)]) (w.heap.size + 1 + 1) 40 [.int .i64 0, .int .i64 0, .int .i64 0, .int .i64 0]) := box_has [cL a b c, ([.int .i64 0, .int .i64 0, .int .i64 0], 23), ([.int .i64 0, .int .i64 0, .int .i64 0, .int .i64 0], 40)] (w := w) (Below.refl _ _) (i := 2) rfl
  have B0 := Lib.hid (boxW_below [cL a b c, ([.int .i64 0, .int .i64 0, .int .i64 0], 23), ([.int .i64 0, .int .i64 0, .int .i64 0, .int .i64 0], 40)] w)
  obtain ⟨W1, hW1⟩ : ∃ W1, W1 = boxW w [cL a b c, ([.int .i64 0, .int .i64 0, .int .i64 0], 23), ([.int .i64 0, .int .i64 0, .int .i64 0, .int .i64 0], 40)] := ⟨_, rfl⟩
  rw [← hW1] at G0 G1 G2 B0
  go_enter Try.func24, Try.ntmps24
  go_upto_region 1 with (fail)
  rw [show ((w.alloc (.cells #[.int .i64 a, .int .i64 b, .int .i64 c] 23)).alloc (.cells #[.int .i64 0, .int .i64 0, .int .i64 0] 23)).alloc (.cells #[.int .i64 0, .int .i64 0, .int .i64 0, .int .i64 0] 40) = W1 from hW1.symm]
  clear hW1
  have c0 : W1.cell? ⟨w.heap.size, 0, none⟩ = some (.int .i64 a) := G0.out.cell 0
  have c1 : W1.cell? ⟨w.heap.size, 1, none⟩ = some (.int .i64 b) := G0.out.cell 1
  have c2 : W1.cell? ⟨w.heap.size, 2, none⟩ = some (.int .i64 c) := G0.out.cell 2
  go_wp2_with fail
  refine (CC.out _).mono ?_
  rintro e w1 ⟨rfl, hb1⟩
  replace G0 := Lib.hid (G0.out.below hb1 G0.out.lt)
  replace G1 := Lib.hid (G1.out.below hb1 G1.out.lt)
  replace G2 := Lib.hid (G2.out.below hb1 G2.out.lt)
  replace B0 := Lib.hid (bvia B0.out hb1)
  clear hb1 c0 c1 c2
  have c0 : w1.cell? ⟨w.heap.size, 0, none⟩ = some (.int .i64 a) := G0.out.cell 0
  have c1 : w1.cell? ⟨w.heap.size, 1, none⟩ = some (.int .i64 b) := G0.out.cell 1
  have c2 : w1.cell? ⟨w.heap.size, 2, none⟩ = some (.int .i64 c) := G0.out.cell 2
  go_wp2_with fail
  refine (CR.out _).mono ?_
  rintro e w2 ⟨⟨l, m, rfl, ST, RD⟩, hb2⟩
  replace G0 := Lib.hid (G0.out.below hb2 G0.out.lt)
  replace G1 := Lib.hid (G1.out.below hb2 G1.out.lt)
  replace G2 := Lib.hid (G2.out.below hb2 G2.out.lt)
  replace B0 := Lib.hid (bvia B0.out hb2)
  clear hb2 c0 c1 c2
  have HST := Lib.hid ST
  have HRD := Lib.hid RD
  obtain ⟨hv, hA, hC⟩ := okL_val HOK.out
  have HF := Lib.hid (ST.fit hv hA hC)
  have hla : In6 10000 l.a := ⟨by have := ST.v.a1; omega, ST.ba⟩
  have hlc : In6 10000 l.c := ⟨by have := ST.v.c1; omega, ST.bc⟩
  have hlb : In6 10000 l.b := ST.v.b_lt ST.ba ST.bc
  have CG : Hid (∀ W : World, _) := Lib.hid (fun W => groupC l.a l.b l.c W hla hlb hlc)
  have hlt0 := G2.out.lt
  clear ST RD hv hA hC hla hlb hlc CC CR
  have D1 := Lib.hid ((Below.refl w2.heap.size w2).alloc (Nat.le_refl _) (.cells #[.int .i64 l.a, .int .i64 l.b, .int .i64 l.c] 23))
  have D2 := Lib.hid (D1.out.alloc (by simp) (.cells #[.int .i64 m.a, .int .i64 m.b, .int .i64 m.c, .int .i64 m.d] 40))
  have G6 : Hid (Has ((w2.alloc (.cells #[.int .i64 l.a, .int .i64 l.b, .int .i64 l.c] 23)).alloc (.cells #[.int .i64 m.a, .int .i64 m.b, .int .i64 m.c, .int .i64 m.d] 40)) (w2.heap.size) 23 [.int .i64 l.a, .int .i64 l.b, .int .i64 l.c]) := Has.alloc (Has.new rfl) _
  have G7 : Hid (Has ((w2.alloc (.cells #[.int .i64 l.a, .int .i64 l.b, .int .i64 l.c] 23)).alloc (.cells #[.int .i64 m.a, .int .i64 m.b, .int .i64 m.c, .int .i64 m.d] 40)) (w2.heap.size + 1) 40 [.int .i64 m.a, .int .i64 m.b, .int .i64 m.c, .int .i64 m.d]) := Has.new2 rfl
  replace G1 := Lib.hid (G1.out.below D2.out G1.out.lt)
  replace G2 := Lib.hid (G2.out.below D2.out G2.out.lt)
  replace B0 := Lib.hid (bvia B0.out D2.out)
  clear D1 D2 G0
  go_upto_region 5 with (fail)
  generalize (w2.alloc (.cells #[.int .i64 l.a, .int .i64 l.b, .int .i64 l.c] 23)).alloc (.cells #[.int .i64 m.a, .int .i64 m.b, .int .i64 m.c, .int .i64 m.d] 40) = W3 at *
  have hw2 : w.heap.size + 2 < w2.heap.size := hlt0
  generalize w2.heap.size = K at *
  have HLT := Lib.hid G7.out.lt
  have c0 : W3.cell? ⟨K, 0, none⟩ = some (.int .i64 l.a) := G6.out.cell 0
  have c1 : W3.cell? ⟨K, 1, none⟩ = some (.int .i64 l.b) := G6.out.cell 1
  have c2 : W3.cell? ⟨K, 2, none⟩ = some (.int .i64 l.c) := G6.out.cell 2
  go_wp2_with fail
  refine (CG.out _).mono ?_
  rintro e w4 ⟨⟨A, cp, rfl, HO⟩, hb4⟩
  replace G1 := Lib.hid (G1.out.below hb4 G1.out.lt)
  replace G2 := Lib.hid (G2.out.below hb4 G2.out.lt)
  replace G6 := Lib.hid (G6.out.below hb4 G6.out.lt)
  replace G7 := Lib.hid (G7.out.below hb4 G7.out.lt)
  replace B0 := Lib.hid (bvia B0.out hb4)
  obtain ⟨n, hn⟩ : ∃ n, n = (grp l 81).length := ⟨_, rfl⟩
  have hn1 : 0 < n := by rw [hn]; exact grp_pos l
  have hn2 : n ≤ 81 := by rw [hn]; exact grp_len l 81
  rw [show (⟨l.a, l.b, l.c⟩ : La.Lat) = l from rfl, ← hn] at HO
  rw [show (⟨l.a, l.b, l.c⟩ : La.Lat) = l from rfl, ← hn]
  have HN := Lib.hid hn
  obtain ⟨g, T, rfl, hg, HG, hcp⟩ := own_has HO hn1
  have hKg : K + 1 < g := Nat.lt_of_lt_of_le HLT.out hg
  have HI : Hid (RedI w g K (K + 1) (msC (stL (La.mul m) (grp l 81) 0) ++ T) l m w4) := ⟨by rw [stL_zero]; exact HG, G6.out, G7.out, B0.out⟩
  have jn : (0 : Int) < (n : Int) := by omega
  clear hn HO HG hg HLT hb4 G6 G7 B0 CG c0 c1 c2
  go_wp2
  go_loopw [26] (fun i wr => ∃ k : Nat, k ≤ n ∧ i = .int .i64 (k : Int) ∧ Hid (RedI w g K (K + 1) (msC (stL (La.mul m) (grp l 81) k) ++ T) l m wr) ∧ Hid (Has wr (w.heap.size + 1) 23 [.int .i64 0, .int .i64 0, .int .i64 0]) ∧ Hid (Has wr (w.heap.size + 1 + 1) 40 [.int .i64 0, .int .i64 0, .int .i64 0, .int .i64 0])) (fun i _ => n - (intOf i).toNat)
  case atStart => exact ⟨0, Nat.zero_le _, rfl, HI, G1, G2⟩
  case round =>
    clear HI G1 G2
    obtain ⟨k, hk, rfl, HI, G1, G2⟩ := hrel
    obtain ⟨wo, rfl⟩ : ∃ wo : World, wo = wr := ⟨_, rfl⟩
    by_cases hlt : k < n
    · have jk : (k : Int) < (n : Int) := by omega
      have ik : IntKind.i64.wrap ((k : Int) + 1) = (k : Int) + 1 := IntWalk.i64_in _ (by omega)
      obtain ⟨x, hx⟩ := get_of_lt (l := grp l 81) (k := k) (by rw [← HN.out]; exact hlt)
      have hS := msC_get (show (stL (La.mul m) (grp l 81) k)[k]? = some x by rw [stL_split hx, List.append_assoc, List.getElem?_append_right (by simp; omega)]; simp; rw [show k - min k (grp l 81).length = 0 by have := lt_of_get hx; omega]; rfl) T
      have HX := Lib.hid (stL_set (f := La.mul m) hx T)
      obtain ⟨⟨xa, xb, xc, xd⟩, _⟩ := grp_mem (List.mem_of_getElem? hx)
      have e0 := hS 0 (by decide)
      have e1 := hS 1 (by decide)
      have e2 := hS 2 (by decide)
      have e3 := hS 3 (by decide)
      obtain ⟨⟨fa, fc⟩, ⟨fb, fd⟩⟩ := HF.out
      have CT : Hid (∀ W : World, Calls Try.prog 65 #[vM m.a m.b m.c m.d, vM x.a x.b x.c x.d] W fun e w' => e = .returned (vM (La.mul m x).a (La.mul m x).b (La.mul m x).c (La.mul m x).d) ∧ Below W.heap.size W w') := Lib.hid (fun W => timesC m.a m.b m.c m.d x.a x.b x.c x.d 10000 1 W fa fb fc fd xa xb xc xd (by decide))
      have hmx : mC (La.mul m x) = [.int .i64 (La.mul m x).a, .int .i64 (La.mul m x).b, .int .i64 (La.mul m x).c, .int .i64 (La.mul m x).d] := rfl
      have HL : Hid (k * 4 + 4 ≤ (msC (stL (La.mul m) (grp l 81) k) ++ T).length) := by show _ ≤ _; rw [List.length_append, msC_len, stL_len, ← HN.out]; omega
      have HMX := Lib.hid hmx
      clear hS hx xa xb xc xd fa fb fc fd hmx
      generalize La.mul m x = y at *
      go_upto_region 9 with (fail)
      refine wp_region_store [.q, .q, .q, .q, .q, .q, .q, .q, .q, .st 0] 9 3 ?aH
        (fun W => RedI w g K (K + 1) (msC (stL (La.mul m) (grp l 81) k) ++ T) l m W ∧ Has W (w.heap.size + 1) 23 [.int .i64 0, .int .i64 0, .int .i64 0] ∧ Has W (w.heap.size + 1 + 1) 40 [.int .i64 0, .int .i64 0, .int .i64 0, .int .i64 0])
        (fun W => RedI w g K (K + 1) (msC (stL (La.mul m) (grp l 81) (k + 1)) ++ T) l m W ∧ Has W (w.heap.size + 1) 23 [.int .i64 0, .int .i64 0, .int .i64 0] ∧ Has W (w.heap.size + 1 + 1) 40 [.int .i64 0, .int .i64 0, .int .i64 0, .int .i64 0])
        (by kernel_rfl) (by kernel_rfl) ⟨HI.out.next ⟨rfl, rfl, rfl, Nat.le_refl _, fun _ _ => rfl⟩, G1.out, G2.out⟩ (fun W W' h hb => ⟨h.1.next hb, h.2.1.below hb h.2.1.lt, h.2.2.below hb h.2.2.lt⟩) ?hq ?hS ?he
      case hq =>
        intro w5 h5
        have c0 : w5.cell? ⟨K + 1, 0, none⟩ = some (.int .i64 m.a) := h5.1.mat.cell 0
        have c1 : w5.cell? ⟨K + 1, 1, none⟩ = some (.int .i64 m.b) := h5.1.mat.cell 1
        have c2 : w5.cell? ⟨K + 1, 2, none⟩ = some (.int .i64 m.c) := h5.1.mat.cell 2
        have c3 : w5.cell? ⟨K + 1, 3, none⟩ = some (.int .i64 m.d) := h5.1.mat.cell 3
        have d0 : w5.cell? ⟨g, k * 4, none⟩ = some (.int .i64 x.a) := (h5.1.own.cell _).trans e0
        have d1 : w5.cell? ⟨g, k * 4 + 1, none⟩ = some (.int .i64 x.b) := (h5.1.own.cell _).trans e1
        have d2 : w5.cell? ⟨g, k * 4 + 2, none⟩ = some (.int .i64 x.c) := (h5.1.own.cell _).trans e2
        have d3 : w5.cell? ⟨g, k * 4 + 3, none⟩ = some (.int .i64 x.d) := (h5.1.own.cell _).trans e3
        have q0 := h5.1.mat.lt
        have q1 := h5.1.own.lt
        have hxc := fun (x : Ext w5) => x.cell
        clear h5
        show wpQuiet _ _ _ _ [_, _, _, _, _, _, _, _, _] _
        repeat (go_big_quiet_step ((go_at_call 65; exact ext_call (CT.out _))))
        refine wpQuiet_nil ?_
        rfl
      case hS =>
        intro o ho W h
        have hop : o.op = .store 40 (.tmp 37) (.tmp 36) := by rw [← Option.some.inj ho]
        obtain ⟨W', h1, h2, h3⟩ := store_mid (P := Try.prog) (x := .tmp 37) (y := .tmp 36) (vs := mC y) (ty := 40) (g := g) (k := k * 4) (cs := msC (stL (La.mul m) (grp l 81) k) ++ T) hop (b := ?aH) (W := W) rfl rfl (by kernel_rfl) HL.out (one_mat y) h.1.own
        rw [HX.out] at h2
        exact ⟨W', h1, h.1.put h3 h2 (by omega) (by omega) (by omega), h3.has h.2.1 (by omega), h3.has h.2.2 (by omega)⟩
      case he =>
        intro W h
        go_wp2
        refine ⟨⟨k + 1, by omega, by rw [Int.natCast_add]; rfl, Lib.hid h.1, Lib.hid h.2.1, Lib.hid h.2.2⟩, ?_⟩
        first | (simp [intOf]; done) | (simp [intOf]; omega)
    · obtain rfl : k = n := by omega
      have jk : ¬ (k : Int) < (k : Int) := by omega
      have HE : Hid (RedI w g K (K + 1) (msC ((grp l 81).map (La.mul m)) ++ T) l m wo) := by
        have := HI.out
        rw [stL_all (by rw [← HN.out]; exact Nat.le_refl _)] at this
        exact this
      have CM := Lib.hid (fun W (hr : RdM4 W W.heap.size (some ⟨g, 0, none⟩) ((grp l 81).map (La.mul m))) => minC (some ⟨g, 0, none⟩) k cp ((grp l 81).map (La.mul m)) W hr (by rw [List.length_map, HN.out]) (by omega) hn1)
      have HRM : Hid (redM l m = lstTo ((grp l 81).map (La.mul m)) (k - 1)) := by show _ = _; unfold redM; rw [HN.out]
      clear HI
      generalize lstTo ((grp l 81).map (La.mul m)) (k - 1) = y at *
      go_upto_region 11 with (fail)
      refine wp_region_two [.q, .q, .q, .st 0, .st 1, .q] ⟨2, 39, some (w.heap.size + 1), 23, [.int .i64 0, .int .i64 0, .int .i64 0], [.int .i64 l.a, .int .i64 l.b, .int .i64 l.c], vL l.a l.b l.c⟩ ⟨3, 41, some (w.heap.size + 1 + 1), 40, [.int .i64 0, .int .i64 0, .int .i64 0, .int .i64 0], [.int .i64 y.a, .int .i64 y.b, .int .i64 y.c, .int .i64 y.d], vM y.a y.b y.c y.d⟩ (w.heap.size + 1) (w.heap.size + 1 + 1) ?aH2 rfl rfl (by omega) (by kernel_rfl) (by kernel_rfl) rfl rfl G1.out G2.out ?hq2 ?hv2 ?hw2 ?hA2 ?he2
      case hq2 =>
        intro w8 h8
        have k6 := h8.has HE.out.lat (by simp; omega)
        have ko := h8.has HE.out.own (by simp; omega)
        have c0 : w8.cell? ⟨K, 0, none⟩ = some (.int .i64 l.a) := k6.cell 0
        have c1 : w8.cell? ⟨K, 1, none⟩ = some (.int .i64 l.b) := k6.cell 1
        have c2 : w8.cell? ⟨K, 2, none⟩ = some (.int .i64 l.c) := k6.cell 2
        have CM2 := Lib.hid (fun (x : Ext w8) => CM.out x.out ((rd_has ko).up x.below))
        have q0 := k6.lt
        have hxc := fun (x : Ext w8) => x.cell
        show wpQuiet _ _ _ _ [_, _, _, _] _
        repeat (go_big_quiet_step ((go_at_call 66; exact ext_call (CM2.out _))))
        refine wpQuiet_nil ?_
        rfl
      case hv2 => simp
      case hw2 => simp
      case hA2 =>
        refine ⟨fun x hx => ?_, fun x hx => ?_, trivial⟩ <;> (obtain rfl := Option.some.inj hx)
        · exact stOk_agg rfl rfl (by kernel_rfl) rfl (by kernel_rfl)
        · exact stOk_agg rfl rfl (by kernel_rfl) rfl (by kernel_rfl)
      case he2 =>
        intro w8 h8 K1 K2
        go_wp2
        have hlt := HE.out.below.size
        refine post_cell2_tmp K1 K2 Try.results24 rfl rfl rfl rfl Try.underlying23 (by kernel_rfl) Try.underlying40 (by kernel_rfl) ⟨⟨l, m, HST.out, HRD.out, ?_⟩, HE.out.below.trans (h8.below' hlt (by simp; omega))⟩
        rw [HRM.out]; rfl
end Go.Proofs.Ytmghpaibdgkbfaa
/-
  Contracts of chapter 6: Group, the program's.
-/
namespace Go.Proofs.Ytmghpaibdgkbfaa
open Go.RowKit
def conj (m x : La.Mat) : La.Mat := La.mul (La.mul m x) (La.inv m)
theorem inv_in {m : La.Mat} (hu : La.unit m) (h : ((-10000 ≤ m.a ∧ m.a ≤ 10000) ∧ (-10000 ≤ m.c ∧ m.c ≤ 10000)) ∧ ((-10000 ≤ m.b ∧ m.b ≤ 10000) ∧ (-10000 ≤ m.d ∧ m.d ≤ 10000))) : In6 10000 (La.inv m).a ∧ In6 10000 (La.inv m).b ∧ In6 10000 (La.inv m).c ∧ In6 10000 (La.inv m).d := by
  show In6 10000 (La.det m * m.d) ∧ In6 10000 (-La.det m * m.b) ∧ In6 10000 (-La.det m * m.c) ∧ In6 10000 (La.det m * m.a)
  rcases hu with hu | hu <;> rw [hu] <;> (refine ⟨⟨?_, ?_⟩, ⟨?_, ?_⟩, ⟨?_, ?_⟩, ⟨?_, ?_⟩⟩ <;> omega)
theorem mul_in {m x : La.Mat} (h : ((-10000 ≤ m.a ∧ m.a ≤ 10000) ∧ (-10000 ≤ m.c ∧ m.c ≤ 10000)) ∧ ((-10000 ≤ m.b ∧ m.b ≤ 10000) ∧ (-10000 ≤ m.d ∧ m.d ≤ 10000))) (k : (-1 ≤ x.a ∧ x.a ≤ 1) ∧ (-1 ≤ x.b ∧ x.b ≤ 1) ∧ (-1 ≤ x.c ∧ x.c ≤ 1) ∧ (-1 ≤ x.d ∧ x.d ≤ 1)) : In6 20000 (La.mul m x).a ∧ In6 20000 (La.mul m x).b ∧ In6 20000 (La.mul m x).c ∧ In6 20000 (La.mul m x).d := by
  obtain ⟨⟨fa, fc⟩, ⟨fb, fd⟩⟩ := h
  obtain ⟨ka, kb, kc, kd⟩ := k
  have e1 := mb 10000 1 10000 fa ka (by decide)
  have e2 := mb 10000 1 10000 fb kc (by decide)
  have e3 := mb 10000 1 10000 fa kb (by decide)
  have e4 := mb 10000 1 10000 fb kd (by decide)
  have e5 := mb 10000 1 10000 fc ka (by decide)
  have e6 := mb 10000 1 10000 fd kc (by decide)
  have e7 := mb 10000 1 10000 fc kb (by decide)
  have e8 := mb 10000 1 10000 fd kd (by decide)
  show In6 20000 (m.a * x.a + m.b * x.c) ∧ In6 20000 (m.a * x.b + m.b * x.d) ∧ In6 20000 (m.c * x.a + m.d * x.c) ∧ In6 20000 (m.c * x.b + m.d * x.d)
  refine ⟨⟨?_, ?_⟩, ⟨?_, ?_⟩, ⟨?_, ?_⟩, ⟨?_, ?_⟩⟩ <;> omega
def GroupQ (a b c : Int) (e : Ending) (w' : World) : Prop := ∃ (l : La.Lat) (m : La.Mat) (A : Option Addr) (cp : Nat) (ms : List La.Mat), La.St ⟨a, b, c⟩ l m ∧ La.Red l ∧ ms.Perm ((grp l 81).map (conj m)) ∧ (∀ (i j : Nat) (x y : La.Mat), i < j → ms[i]? = some x → ms[j]? = some y → ¬ ordI y x < 0) ∧ e = .returned (.tuple #[.slice A ms.length cp, .int .i64 0]) ∧ RdM4 w' w'.heap.size A ms
set_option maxRecDepth 100000 in
set_option maxHeartbeats 1000000 in
theorem groupNC (a b c : Int) (w : World) (h : okL a b c = false) : Calls Try.prog 30 #[vL a b c] w fun e w' => e = .returned (.tuple #[.slice none 0 0, .int .i64 2]) ∧ Below w.heap.size w w' := by
  have CC := Lib.hid (fun W => checkC a b c W)
  rw [show errL a b c = 2 from if_neg (by rw [h]; decide)] at CC
  have B0 := Lib.hid (boxW_below [cL a b c] w)
  go_enter Try.func30, Try.ntmps30
  go_wp2_with fail
  refine (CC.out _).mono ?_
  rintro e w1 ⟨rfl, hb1⟩
  go_wp2
  go_ret2
  exact ⟨rfl, bvia B0.out hb1⟩
set_option maxRecDepth 100000 in
set_option maxHeartbeats 4000000 in
theorem groupTC (a b c : Int) (w : World) (h : okL a b c = true) : Calls Try.prog 30 #[vL a b c] w fun e w' => GroupQ a b c e w' ∧ Below w.heap.size w w' := by
  have CC := Lib.hid (fun W => checkC a b c W)
  rw [show errL a b c = 0 from if_pos h] at CC
  have CR := Lib.hid (fun W => reduceC a b c W h)
  have HOK := Lib.hid h
  clear h
  have G0 : Hid (Has (boxW w [cL a b c]) (w.heap.size) 23 [.int .i64 a, .int .i64 b, .int .i64 c]) := box_has [cL a b c] (w := w) (Below.refl _ _) (i := 0) rfl
  have B0 := Lib.hid (boxW_below [cL a b c] w)
  obtain ⟨W1, hW1⟩ : ∃ W1, W1 = boxW w [cL a b c] := ⟨_, rfl⟩
  rw [← hW1] at G0 B0
  go_enter Try.func30, Try.ntmps30
  go_upto_region 1 with (fail)
  rw [show w.alloc (.cells #[.int .i64 a, .int .i64 b, .int .i64 c] 23) = W1 from hW1.symm]
  clear hW1
  have c0 : W1.cell? ⟨w.heap.size, 0, none⟩ = some (.int .i64 a) := G0.out.cell 0
  have c1 : W1.cell? ⟨w.heap.size, 1, none⟩ = some (.int .i64 b) := G0.out.cell 1
  have c2 : W1.cell? ⟨w.heap.size, 2, none⟩ = some (.int .i64 c) := G0.out.cell 2
  go_wp2_with fail
  refine (CC.out _).mono ?_
  rintro e w1 ⟨rfl, hb1⟩
  replace G0 := Lib.hid (G0.out.below hb1 G0.out.lt)
  replace B0 := Lib.hid (bvia B0.out hb1)
  clear hb1 c0 c1 c2
  have c0 : w1.cell? ⟨w.heap.size, 0, none⟩ = some (.int .i64 a) := G0.out.cell 0
  have c1 : w1.cell? ⟨w.heap.size, 1, none⟩ = some (.int .i64 b) := G0.out.cell 1
  have c2 : w1.cell? ⟨w.heap.size, 2, none⟩ = some (.int .i64 c) := G0.out.cell 2
  go_wp2_with fail
  refine (CR.out _).mono ?_
  rintro e w2 ⟨⟨l, m, rfl, ST, RD⟩, hb2⟩
  replace G0 := Lib.hid (G0.out.below hb2 G0.out.lt)
  replace B0 := Lib.hid (bvia B0.out hb2)
  clear hb2 c0 c1 c2
  have HST := Lib.hid ST
  have HRD := Lib.hid RD
  obtain ⟨hv, hA, hC⟩ := okL_val HOK.out
  have HF := Lib.hid (ST.fit hv hA hC)
  have hla : In6 10000 l.a := ⟨by have := ST.v.a1; omega, ST.ba⟩
  have hlc : In6 10000 l.c := ⟨by have := ST.v.c1; omega, ST.bc⟩
  have hlb : In6 10000 l.b := ST.v.b_lt ST.ba ST.bc
  have CG : Hid (∀ W : World, _) := Lib.hid (fun W => groupC l.a l.b l.c W hla hlb hlc)
  have hlt0 := G0.out.lt
  clear ST RD hv hA hC hla hlb hlc CC CR
  have D1 := Lib.hid ((Below.refl w2.heap.size w2).alloc (Nat.le_refl _) (.cells #[.int .i64 l.a, .int .i64 l.b, .int .i64 l.c] 23))
  have D2 := Lib.hid (D1.out.alloc (by simp) (.cells #[.int .i64 m.a, .int .i64 m.b, .int .i64 m.c, .int .i64 m.d] 40))
  have G6 : Hid (Has ((w2.alloc (.cells #[.int .i64 l.a, .int .i64 l.b, .int .i64 l.c] 23)).alloc (.cells #[.int .i64 m.a, .int .i64 m.b, .int .i64 m.c, .int .i64 m.d] 40)) (w2.heap.size) 23 [.int .i64 l.a, .int .i64 l.b, .int .i64 l.c]) := Has.alloc (Has.new rfl) _
  have G7 : Hid (Has ((w2.alloc (.cells #[.int .i64 l.a, .int .i64 l.b, .int .i64 l.c] 23)).alloc (.cells #[.int .i64 m.a, .int .i64 m.b, .int .i64 m.c, .int .i64 m.d] 40)) (w2.heap.size + 1) 40 [.int .i64 m.a, .int .i64 m.b, .int .i64 m.c, .int .i64 m.d]) := Has.new2 rfl
  replace B0 := Lib.hid (bvia B0.out D2.out)
  clear D1 D2 G0
  go_upto_region 5 with (fail)
  generalize (w2.alloc (.cells #[.int .i64 l.a, .int .i64 l.b, .int .i64 l.c] 23)).alloc (.cells #[.int .i64 m.a, .int .i64 m.b, .int .i64 m.c, .int .i64 m.d] 40) = W3 at *
  have hw2 : w.heap.size < w2.heap.size := hlt0
  generalize w2.heap.size = K at *
  have HLT := Lib.hid G7.out.lt
  have c0 : W3.cell? ⟨K, 0, none⟩ = some (.int .i64 l.a) := G6.out.cell 0
  have c1 : W3.cell? ⟨K, 1, none⟩ = some (.int .i64 l.b) := G6.out.cell 1
  have c2 : W3.cell? ⟨K, 2, none⟩ = some (.int .i64 l.c) := G6.out.cell 2
  go_wp2_with fail
  refine (CG.out _).mono ?_
  rintro e w4 ⟨⟨A, cp, rfl, HO⟩, hb4⟩
  replace G6 := Lib.hid (G6.out.below hb4 G6.out.lt)
  replace G7 := Lib.hid (G7.out.below hb4 G7.out.lt)
  replace B0 := Lib.hid (bvia B0.out hb4)
  obtain ⟨n, hn⟩ : ∃ n, n = (grp l 81).length := ⟨_, rfl⟩
  have hn1 : 0 < n := by rw [hn]; exact grp_pos l
  have hn2 : n ≤ 81 := by rw [hn]; exact grp_len l 81
  rw [show (⟨l.a, l.b, l.c⟩ : La.Lat) = l from rfl, ← hn] at HO
  rw [show (⟨l.a, l.b, l.c⟩ : La.Lat) = l from rfl, ← hn]
  have HN := Lib.hid hn
  obtain ⟨g, T, rfl, hg, HG, hcp⟩ := own_has HO hn1
  have hKg : K + 1 < g := Nat.lt_of_lt_of_le HLT.out hg
  have HI : Hid (RedI w g K (K + 1) (msC (stL (conj m) (grp l 81) 0) ++ T) l m w4) := ⟨by rw [stL_zero]; exact HG, G6.out, G7.out, B0.out⟩
  have jn : (0 : Int) < (n : Int) := by omega
  clear hn HO HG hg HLT hb4 G6 G7 B0 CG c0 c1 c2
  go_wp2
  go_loopw [23] (fun i wr => ∃ k : Nat, k ≤ n ∧ i = .int .i64 (k : Int) ∧ Hid (RedI w g K (K + 1) (msC (stL (conj m) (grp l 81) k) ++ T) l m wr)) (fun i _ => n - (intOf i).toNat)
  case atStart => exact ⟨0, Nat.zero_le _, rfl, HI⟩
  case round =>
    clear HI
    obtain ⟨k, hk, rfl, HI⟩ := hrel
    obtain ⟨wo, rfl⟩ : ∃ wo : World, wo = wr := ⟨_, rfl⟩
    by_cases hlt : k < n
    · have jk : (k : Int) < (n : Int) := by omega
      have ik : IntKind.i64.wrap ((k : Int) + 1) = (k : Int) + 1 := IntWalk.i64_in _ (by omega)
      obtain ⟨x, hx⟩ := get_of_lt (l := grp l 81) (k := k) (by rw [← HN.out]; exact hlt)
      have hS := msC_get (show (stL (conj m) (grp l 81) k)[k]? = some x by rw [stL_split hx, List.append_assoc, List.getElem?_append_right (by simp; omega)]; simp; rw [show k - min k (grp l 81).length = 0 by have := lt_of_get hx; omega]; rfl) T
      have HX := Lib.hid (stL_set (f := conj m) hx T)
      have hxi := (grp_mem (List.mem_of_getElem? hx)).1
      have hmi := mul_in HF.out hxi
      have hii := inv_in HST.out.u HF.out
      have CI : Hid (∀ W : World, Calls Try.prog 70 #[vM m.a m.b m.c m.d] W fun e w' => e = .returned (vM (La.inv m).a (La.inv m).b (La.inv m).c (La.inv m).d) ∧ Below W.heap.size W w') := Lib.hid (fun W => inverseC m.a m.b m.c m.d 10000 W HF.out.1.1 HF.out.2.1 HF.out.1.2 HF.out.2.2 (by decide) HST.out.u)
      have CT2 : Hid (∀ W : World, Calls Try.prog 65 #[vM (La.mul m x).a (La.mul m x).b (La.mul m x).c (La.mul m x).d, vM (La.inv m).a (La.inv m).b (La.inv m).c (La.inv m).d] W fun e w' => e = .returned (vM (conj m x).a (conj m x).b (conj m x).c (conj m x).d) ∧ Below W.heap.size W w') := Lib.hid (fun W => timesC (La.mul m x).a (La.mul m x).b (La.mul m x).c (La.mul m x).d (La.inv m).a (La.inv m).b (La.inv m).c (La.inv m).d 20000 10000 W hmi.1 hmi.2.1 hmi.2.2.1 hmi.2.2.2 hii.1 hii.2.1 hii.2.2.1 hii.2.2.2 (by decide))
      obtain ⟨xa, xb, xc, xd⟩ := hxi
      clear hmi hii
      have e0 := hS 0 (by decide)
      have e1 := hS 1 (by decide)
      have e2 := hS 2 (by decide)
      have e3 := hS 3 (by decide)
      obtain ⟨⟨fa, fc⟩, ⟨fb, fd⟩⟩ := HF.out
      have CT : Hid (∀ W : World, Calls Try.prog 65 #[vM m.a m.b m.c m.d, vM x.a x.b x.c x.d] W fun e w' => e = .returned (vM (La.mul m x).a (La.mul m x).b (La.mul m x).c (La.mul m x).d) ∧ Below W.heap.size W w') := Lib.hid (fun W => timesC m.a m.b m.c m.d x.a x.b x.c x.d 10000 1 W fa fb fc fd xa xb xc xd (by decide))
      have hmx : mC (conj m x) = mC (conj m x) := rfl
      have HL : Hid (k * 4 + 4 ≤ (msC (stL (conj m) (grp l 81) k) ++ T).length) := by show _ ≤ _; rw [List.length_append, msC_len, stL_len, ← HN.out]; omega
      have HMX := Lib.hid hmx
      clear hS hx xa xb xc xd fa fb fc fd hmx
      generalize conj m x = y at *
      generalize La.mul m x = z at *
      generalize La.inv m = v at *
      go_upto_region 9 with (fail)
      refine wp_region_store [.q, .q, .q, .q, .q, .q, .q, .q, .q, .q, .q, .q, .st 0] 12 4 ?aH
        (fun W => RedI w g K (K + 1) (msC (stL (conj m) (grp l 81) k) ++ T) l m W)
        (fun W => RedI w g K (K + 1) (msC (stL (conj m) (grp l 81) (k + 1)) ++ T) l m W)
        (by kernel_rfl) (by kernel_rfl) (HI.out.next ⟨rfl, rfl, rfl, Nat.le_refl _, fun _ _ => rfl⟩) (fun W W' h hb => h.next hb) ?hq ?hS ?he
      case hq =>
        intro w5 h5
        have c0 : w5.cell? ⟨K + 1, 0, none⟩ = some (.int .i64 m.a) := h5.mat.cell 0
        have c1 : w5.cell? ⟨K + 1, 1, none⟩ = some (.int .i64 m.b) := h5.mat.cell 1
        have c2 : w5.cell? ⟨K + 1, 2, none⟩ = some (.int .i64 m.c) := h5.mat.cell 2
        have c3 : w5.cell? ⟨K + 1, 3, none⟩ = some (.int .i64 m.d) := h5.mat.cell 3
        have d0 : w5.cell? ⟨g, k * 4, none⟩ = some (.int .i64 x.a) := (h5.own.cell _).trans e0
        have d1 : w5.cell? ⟨g, k * 4 + 1, none⟩ = some (.int .i64 x.b) := (h5.own.cell _).trans e1
        have d2 : w5.cell? ⟨g, k * 4 + 2, none⟩ = some (.int .i64 x.c) := (h5.own.cell _).trans e2
        have d3 : w5.cell? ⟨g, k * 4 + 3, none⟩ = some (.int .i64 x.d) := (h5.own.cell _).trans e3
        have q0 := h5.mat.lt
        have q1 := h5.own.lt
        have hxc := fun (x : Ext w5) => x.cell
        clear h5
        show wpQuiet _ _ _ _ [_, _, _, _, _, _, _, _, _, _, _, _] _
        repeat (go_big_quiet_step ((first | (go_at_call 70; exact ext_call (CI.out _)) | (go_at_call_of 65 (Value.agg #[Value.int .i64 x.a, Value.int .i64 x.b, Value.int .i64 x.c, Value.int .i64 x.d]); exact ext_call (CT.out _)) | (go_at_call 65; exact ext_call (CT2.out _)))))
        refine wpQuiet_nil ?_
        rfl
      case hS =>
        intro o ho W h
        have hop : o.op = .store 40 (.tmp 37) (.tmp 36) := by rw [← Option.some.inj ho]
        obtain ⟨W', h1, h2, h3⟩ := store_mid (P := Try.prog) (x := .tmp 37) (y := .tmp 36) (vs := mC y) (ty := 40) (g := g) (k := k * 4) (cs := msC (stL (conj m) (grp l 81) k) ++ T) hop (b := ?aH) (W := W) rfl rfl (by kernel_rfl) HL.out (one_mat y) h.own
        rw [HX.out] at h2
        exact ⟨W', h1, h.put h3 h2 (by omega) (by omega) (by omega)⟩
      case he =>
        intro W h
        go_wp2
        refine ⟨⟨k + 1, by omega, by rw [Int.natCast_add]; rfl, Lib.hid h⟩, ?_⟩
        first | (simp [intOf]; done) | (simp [intOf]; omega)
    · obtain rfl : k = n := by omega
      have jk : ¬ (k : Int) < (k : Int) := by omega
      have HE : Hid (RedI w g K (K + 1) (msC ((grp l 81).map (conj m)) ++ T) l m wo) := by
        have := HI.out
        rw [stL_all (by rw [← HN.out]; exact Nat.le_refl _)] at this
        exact this
      have CS := Lib.hid (fun W (hh : Has W g 40 (msC ((grp l 81).map (conj m)) ++ T)) => sortMatC g k cp ((grp l 81).map (conj m)) T W hh (by rw [List.length_map, HN.out]) (by omega))
      clear HI
      go_wp2_with fail
      refine (CS.out _ HE.out.own).mono ?_
      rintro e w5 ⟨rfl, ⟨ms, hp, hs, hrd⟩, hbut⟩
      have hlen : ms.length = k := by rw [hp.length_eq, List.length_map, HN.out]
      have hgw : w.heap.size ≤ g := by omega
      have BB := Lib.hid (HE.out.below.trans (hbut.below hgw HE.out.below.size))
      have HP := Lib.hid hp
      have HSo := Lib.hid hs
      have HRd := Lib.hid hrd
      clear hp hs hrd hbut
      subst hlen
      go_wp2
      go_ret2
      exact ⟨⟨l, m, some ⟨g, 0, none⟩, cp, ms, HST.out, HRD.out, HP.out, fun i j x y h1 h2 h3 => Int.not_lt.2 (HSo.out i j x y h1 h2 h3), rfl, HRd.out⟩, BB.out⟩
end Go.Proofs.Ytmghpaibdgkbfaa
/-
  Plain facts of the law's examples in chapter 6.
-/
namespace Go.Proofs.Ytmghpaibdgkbfaa
theorem hex_len {l : La.Lat} {m : La.Mat} (h : La.St ⟨2, 1, 2⟩ l m) (r : La.Red l) : (grp l 81).length = 12 := by
  have e : (⟨2, 1, 2⟩ : La.Lat) = l := La.red_uniq ⟨by decide, by decide, by decide⟩ (by decide) r h.v.a1 h.u h.e
  subst e
  decide +kernel
theorem red_ex {l : La.Lat} {m : La.Mat} (h : La.St ⟨5, 7, 10⟩ l m) (r : La.Red l) : l = ⟨1, 0, 1⟩ ∧ redM l m = ⟨-3, -1, 2, 1⟩ := by
  have hu : La.unit (⟨-3, -1, 2, 1⟩ : La.Mat) := Or.inr (by decide)
  have e0 : La.lead ⟨1, 0, 1⟩ (La.inv ⟨-3, -1, 2, 1⟩) = ⟨5, 7, 10⟩ := by decide
  have e1 : La.lead ⟨1, 0, 1⟩ (La.mul (La.inv ⟨-3, -1, 2, 1⟩) m) = l := by rw [La.lead_mul, e0, h.e]
  have e2 : (⟨1, 0, 1⟩ : La.Lat) = l := La.red_uniq ⟨by decide, by decide, by decide⟩ (by decide) r h.v.a1 (La.unit_mul (La.unit_inv hu) h.u) e1
  subst e2
  refine ⟨rfl, ?_⟩
  obtain ⟨i, hi, hc⟩ := cand_all (La.keep_small ⟨by decide, by decide, by decide⟩ (by decide) (by decide) e1)
  have hm : m = La.mul ⟨-3, -1, 2, 1⟩ (cand i) := by rw [hc, ← La.mul_assoc, La.mul_inv hu, La.one_mul]
  rw [← hc] at e1
  rw [hm]
  have key : ∀ i, i < 81 → La.lead ⟨1, 0, 1⟩ (cand i) = ⟨1, 0, 1⟩ → redM ⟨1, 0, 1⟩ (La.mul ⟨-3, -1, 2, 1⟩ (cand i)) = ⟨-3, -1, 2, 1⟩ := by decide +kernel
  exact key i hi e1
end Go.Proofs.Ytmghpaibdgkbfaa
/-
  Contracts of chapter 6: bounds of matrices and moves, the program's and the document's.
-/
namespace Go.Proofs.Ytmghpaibdgkbfaa
open Go.RowKit
abbrev vV (a b c d u v : Int) : Value := .agg #[.int .i64 a, .int .i64 b, .int .i64 c, .int .i64 d, .int .i64 u, .int .i64 v]
abbrev cV (a b c d u v : Int) : List Value × TypeId := ([.int .i64 a, .int .i64 b, .int .i64 c, .int .i64 d, .int .i64 u, .int .i64 v], 58)
def okG (x : Int) : Bool := decide (-10000 ≤ x) && decide (x ≤ 10000)
theorem okG_iff (x : Int) : okG x = true ↔ In6 10000 x := by unfold okG; simp
theorem okG_out (x : Int) : (decide (x < -10000) || decide (10000 < x)) = !okG x := by
  cases h : okG x with
  | true =>
    have := (okG_iff x).1 h
    rw [decide_eq_false (by omega), decide_eq_false (by omega)]; rfl
  | false =>
    have hn : ¬ In6 10000 x := fun q => by rw [(okG_iff x).2 q] at h; cases h
    by_cases a1 : x < -10000
    · rw [decide_eq_true a1]; rfl
    · rw [decide_eq_true (show 10000 < x by omega), Bool.or_true]; rfl
def okM (a b c d : Int) : Bool := okG a && (okG b && (okG c && okG d))
theorem okM_iff (a b c d : Int) : okM a b c d = true ↔ In6 10000 a ∧ In6 10000 b ∧ In6 10000 c ∧ In6 10000 d := by
  unfold okM
  rw [Bool.and_eq_true, Bool.and_eq_true, Bool.and_eq_true, okG_iff, okG_iff, okG_iff, okG_iff]
theorem outG (x : Int) (w : World) : Calls Try.prog 52 #[.int .i64 x, .int .i64 10000] w fun e w' => e = .returned (.bool (!okG x)) ∧ w = w' := by
  have := outC x 10000 w (by omega)
  rw [okG_out] at this
  exact this
theorem fromG (x : Int) (w : World) : Calls Try.prog 53 #[.int .i64 x, .int .i64 (-10000), .int .i64 10000] w fun e w' => e = .returned (.bool (okG x)) ∧ w = w' := fromC x (-10000) 10000 w
set_option maxRecDepth 100000 in
set_option maxHeartbeats 1000000 in
theorem matrixC (a b c d : Int) (w : World) : Calls Try.prog 72 #[vM a b c d] w fun e w' => e = .returned (.bool (okM a b c d)) ∧ Below w.heap.size w w' := by
  have Ca := Lib.hid (fun W => outG a W)
  have Cb := Lib.hid (fun W => outG b W)
  have Cc := Lib.hid (fun W => outG c W)
  have Cd := Lib.hid (fun W => outG d W)
  unfold okM
  cases ha : okG a with
  | false =>
    rw [ha] at Ca
    rw [Bool.false_and]
    clear ha
    go_enter Try.func72, Try.ntmps72
    go_wp2_with fail
    refine (Ca.out _).mono ?_
    rintro e w1 ⟨rfl, rfl⟩
    go_wp2
    go_ret
    exact ⟨rfl, by go_grown⟩
  | true =>
  rw [ha] at Ca
  rw [Bool.true_and]
  clear ha
  cases hb : okG b with
  | false =>
    rw [hb] at Cb
    rw [Bool.false_and]
    clear hb
    go_enter Try.func72, Try.ntmps72
    go_wp2_with fail
    refine (Ca.out _).mono ?_
    rintro e w1 ⟨rfl, rfl⟩
    go_wp2_with fail
    refine (Cb.out _).mono ?_
    rintro e w1 ⟨rfl, rfl⟩
    go_wp2
    go_ret
    exact ⟨rfl, by go_grown⟩
  | true =>
  rw [hb] at Cb
  rw [Bool.true_and]
  clear hb
  cases hc : okG c with
  | false =>
    rw [hc] at Cc
    rw [Bool.false_and]
    clear hc
    go_enter Try.func72, Try.ntmps72
    go_wp2_with fail
    refine (Ca.out _).mono ?_
    rintro e w1 ⟨rfl, rfl⟩
    go_wp2_with fail
    refine (Cb.out _).mono ?_
    rintro e w1 ⟨rfl, rfl⟩
    go_wp2_with fail
    refine (Cc.out _).mono ?_
    rintro e w1 ⟨rfl, rfl⟩
    go_wp2
    go_ret
    exact ⟨rfl, by go_grown⟩
  | true =>
  rw [hc] at Cc
  rw [Bool.true_and]
  clear hc
  generalize okG d = r at *
  go_enter Try.func72, Try.ntmps72
  go_wp2_with fail
  refine (Ca.out _).mono ?_
  rintro e w1 ⟨rfl, rfl⟩
  go_wp2_with fail
  refine (Cb.out _).mono ?_
  rintro e w1 ⟨rfl, rfl⟩
  go_wp2_with fail
  refine (Cc.out _).mono ?_
  rintro e w1 ⟨rfl, rfl⟩
  go_wp2_with fail
  refine (Cd.out _).mono ?_
  rintro e w1 ⟨rfl, rfl⟩
  go_wp2
  go_ret
  exact ⟨by first | rfl | (cases r <;> rfl), by go_grown⟩
set_option maxRecDepth 100000 in
set_option maxHeartbeats 1000000 in
theorem rmatrixC (a b c d : Int) (w : World) : Calls Try.prog 26 #[vM a b c d] w fun e w' => e = .returned (.bool (okM a b c d)) ∧ Below w.heap.size w w' := by
  have Ca := Lib.hid (fun W => fromG a W)
  have Cb := Lib.hid (fun W => fromG b W)
  have Cc := Lib.hid (fun W => fromG c W)
  have Cd := Lib.hid (fun W => fromG d W)
  unfold okM
  cases ha : okG a with
  | false =>
    rw [ha] at Ca
    rw [Bool.false_and]
    clear ha
    go_enter Try.func26, Try.ntmps26
    go_wp2_with fail
    refine (Ca.out _).mono ?_
    rintro e w1 ⟨rfl, rfl⟩
    go_wp2
    go_ret
    exact ⟨rfl, by go_grown⟩
  | true =>
  rw [ha] at Ca
  rw [Bool.true_and]
  clear ha
  cases hb : okG b with
  | false =>
    rw [hb] at Cb
    rw [Bool.false_and]
    clear hb
    go_enter Try.func26, Try.ntmps26
    go_wp2_with fail
    refine (Ca.out _).mono ?_
    rintro e w1 ⟨rfl, rfl⟩
    go_wp2_with fail
    refine (Cb.out _).mono ?_
    rintro e w1 ⟨rfl, rfl⟩
    go_wp2
    go_ret
    exact ⟨rfl, by go_grown⟩
  | true =>
  rw [hb] at Cb
  rw [Bool.true_and]
  clear hb
  cases hc : okG c with
  | false =>
    rw [hc] at Cc
    rw [Bool.false_and]
    clear hc
    go_enter Try.func26, Try.ntmps26
    go_wp2_with fail
    refine (Ca.out _).mono ?_
    rintro e w1 ⟨rfl, rfl⟩
    go_wp2_with fail
    refine (Cb.out _).mono ?_
    rintro e w1 ⟨rfl, rfl⟩
    go_wp2_with fail
    refine (Cc.out _).mono ?_
    rintro e w1 ⟨rfl, rfl⟩
    go_wp2
    go_ret
    exact ⟨rfl, by go_grown⟩
  | true =>
  rw [hc] at Cc
  rw [Bool.true_and]
  clear hc
  generalize okG d = r at *
  go_enter Try.func26, Try.ntmps26
  go_wp2_with fail
  refine (Ca.out _).mono ?_
  rintro e w1 ⟨rfl, rfl⟩
  go_wp2_with fail
  refine (Cb.out _).mono ?_
  rintro e w1 ⟨rfl, rfl⟩
  go_wp2_with fail
  refine (Cc.out _).mono ?_
  rintro e w1 ⟨rfl, rfl⟩
  go_wp2_with fail
  refine (Cd.out _).mono ?_
  rintro e w1 ⟨rfl, rfl⟩
  go_wp2
  go_ret
  exact ⟨by first | rfl | (cases r <;> rfl), by go_grown⟩
def okV (a b c d u v : Int) : Bool := okM a b c d && okP u v
theorem okPs_one (x y : Int) : okPs [(x, y)] = okP x y := by unfold okPs; simp
set_option maxRecDepth 100000 in
set_option maxHeartbeats 1000000 in
theorem moveC (a b c d u v : Int) (w : World) : Calls Try.prog 75 #[vV a b c d u v] w fun e w' => e = .returned (.bool (okV a b c d u v)) ∧ Below w.heap.size w w' := by
  have CM := Lib.hid (fun W => matrixC a b c d W)
  have F0 := Lib.hid (fun (W : World) (hb : Below (w.heap.size + 1) (boxW w [cV a b c d u v]) W) => fun i x h => box_has [cV a b c d u v] hb (i := i) (c := x) h)
  have S0 : Hid ((boxW w [cV a b c d u v]).heap.size = w.heap.size + 1) := boxW_size [cV a b c d u v] w
  have B0 := Lib.hid (boxW_below [cV a b c d u v] w)
  unfold okV
  cases hm : okM a b c d with
  | false =>
    rw [hm] at CM
    rw [Bool.false_and]
    clear hm
    go_enter Try.func75, Try.ntmps75
    go_wp2_with fail
    refine (CM.out _).mono ?_
    rintro e w1 ⟨rfl, hb1⟩
    go_wp2
    go_ret
    exact ⟨rfl, bvia B0.out hb1⟩
  | true =>
    rw [hm] at CM
    rw [Bool.true_and]
    clear hm
    have CP := Lib.hid (fun (W : World) => pointC (some ⟨W.heap.size, 0, none⟩) 1 1 [(u, v)] (W.alloc (.cells #[.int .i64 u, .int .i64 v] 25)) (rdP_new [(u, v)]) rfl (by decide))
    rw [okPs_one] at CP
    generalize okP u v = r at *
    go_enter Try.func75, Try.ntmps75
    go_wp2_with fail
    refine (CM.out _).mono ?_
    rintro e w1 ⟨rfl, hb1⟩
    have B1 := Lib.hid (bvia B0.out hb1)
    have hb1' : Below (w.heap.size + 1) (boxW w [cV a b c d u v]) w1 := by rw [← S0.out]; exact hb1
    have g0 := F0.out w1 hb1' 0 _ rfl
    have x4 : w1.cell? ⟨w.heap.size, 4, none⟩ = some (.int .i64 u) := g0.cell 4
    have x5 : w1.cell? ⟨w.heap.size, 5, none⟩ = some (.int .i64 v) := g0.cell 5
    clear hb1 hb1' g0
    go_wp2_with fail
    refine (CP.out _).mono ?_
    rintro e w2 ⟨rfl, hb2⟩
    go_wp2
    go_ret
    exact ⟨rfl, bvia B1.out (bvia (by first | exact Below.refl _ _ | go_grown) hb2)⟩
set_option maxRecDepth 100000 in
set_option maxHeartbeats 1000000 in
theorem rmoveC (a b c d u v : Int) (w : World) : Calls Try.prog 77 #[vV a b c d u v] w fun e w' => e = .returned (.bool (okV a b c d u v)) ∧ Below w.heap.size w w' := by
  have CM := Lib.hid (fun W => rmatrixC a b c d W)
  have F0 := Lib.hid (fun (W : World) (hb : Below (w.heap.size + 1) (boxW w [cV a b c d u v]) W) => fun i x h => box_has [cV a b c d u v] hb (i := i) (c := x) h)
  have S0 : Hid ((boxW w [cV a b c d u v]).heap.size = w.heap.size + 1) := boxW_size [cV a b c d u v] w
  have B0 := Lib.hid (boxW_below [cV a b c d u v] w)
  unfold okV
  cases hm : okM a b c d with
  | false =>
    rw [hm] at CM
    rw [Bool.false_and]
    clear hm
    go_enter Try.func77, Try.ntmps77
    go_wp2_with fail
    refine (CM.out _).mono ?_
    rintro e w1 ⟨rfl, hb1⟩
    go_wp2
    go_ret
    exact ⟨rfl, bvia B0.out hb1⟩
  | true =>
    rw [hm] at CM
    rw [Bool.true_and]
    clear hm
    have CP := Lib.hid (fun W => refP u v W)
    generalize okP u v = r at *
    go_enter Try.func77, Try.ntmps77
    go_wp2_with fail
    refine (CM.out _).mono ?_
    rintro e w1 ⟨rfl, hb1⟩
    have B1 := Lib.hid (bvia B0.out hb1)
    have hb1' : Below (w.heap.size + 1) (boxW w [cV a b c d u v]) w1 := by rw [← S0.out]; exact hb1
    have g0 := F0.out w1 hb1' 0 _ rfl
    have x4 : w1.cell? ⟨w.heap.size, 4, none⟩ = some (.int .i64 u) := g0.cell 4
    have x5 : w1.cell? ⟨w.heap.size, 5, none⟩ = some (.int .i64 v) := g0.cell 5
    clear hb1 hb1' g0
    go_wp2_with fail
    refine (CP.out _).mono ?_
    rintro e w2 ⟨rfl, hb2⟩
    go_wp2
    go_ret
    exact ⟨rfl, bvia B1.out (bvia (by first | exact Below.refl _ _ | go_grown) hb2)⟩
end Go.Proofs.Ytmghpaibdgkbfaa
