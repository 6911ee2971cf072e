/-
  Contract of chapter 16: the pillow's method Do.
-/
import Derived.Test.YtaenafcecfdffaaVB7
namespace Go.Proofs.Ytaenafcecfdffaa
open Go.RowKit
theorem rows_steps (z : Pil) (x : Wk) (S S' M V L X P : Value) : pilRows { z with steps := z.steps ++ [x] } S' M V L X P = (pilRows z S M V L X P).set 0 ⟨35, 3, S', z.steps.length + 1, wksCells z.steps ++ wkCells x⟩ := by
  simp [pilRows, wksCells_app]
theorem rows_note (z : Pil) (x : Wk) (S M M' V L X P : Value) : pilRows (z.note x) S M' V L X P = (pilRows { z with steps := z.steps ++ [x] } S M V L X P).set 1 ⟨83, 4, M', z.marks.length + 1, qsC z.marks ++ q4C ⟨z.hands, (z.works.length : Int), (z.xs.length : Int), (z.ps.length : Int)⟩⟩ := by
  simp [pilRows, Pil.note, qsC_app]
theorem rows_work (z : Pil) (y : Wk) (S M V V' L X P : Value) : pilRows (z.work y) S M V' L X P = (pilRows z S M V L X P).set 2 ⟨86, 3, V', z.works.length + 1, wksCells z.works ++ wkCells y⟩ := by
  simp [pilRows, Pil.work, wksCells_app]
set_option maxRecDepth 100000 in
set_option maxHeartbeats 8000000 in
theorem doReach (B g : Nat) (p s : Int) (z : Pil) (S M V L X P : Value) (kd at_ : Int) (wd : ByteArray) (W : World) (h : PilH W B g p s z S M V L X P) (hwd : wd.size ≤ 9223372036854775807) (hs1 : z.steps.length < 1000) (hs2 : z.marks.length ≤ 1000) (hE : pilE p s z ⟨kd, at_, wd⟩ = 0) (hk : kd = 1) :
    Calls Try.prog 12 #[.pointer (some ⟨g, 0, none⟩), .agg #[.int .i64 kd, .int .i64 at_, .string wd]] W fun e w' => e = .returned (.int .i64 0) ∧ (∃ S' M' V' L' X' P', PilH w' B g p s (z.step ⟨kd, at_, wd⟩) S' M' V' L' X' P' ∧ Grown g W [S, M, V, L, X, P] w' [S', M', V', L', X', P']) ∧ Below B W w' := by
  obtain ⟨hp, hsp, q1, q2, q3, q4, q5, q6⟩ := pilE_zero hE
  have q1 : shapeB kd wd = true := q1
  have q2 : wchk wd = 0 := q2
  have q3 : 0 ≤ at_ := q3
  have q4 : at_ ≤ p - 2 := q4
  clear q5 q6
  have HK := Lib.hid hk
  clear hk
  have bxp : ∃ bx, bx = W.heap.size := ⟨_, rfl⟩
  obtain ⟨bx, hbx⟩ := bxp
  obtain ⟨SA, sc, rfl⟩ := own_form (show W.ownsRow B 35 3 S z.steps.length (wksCells z.steps) from h.o 0 _ rfl)
  obtain ⟨MA, mc, rfl⟩ := own_form (show W.ownsRow B 83 4 M z.marks.length (qsC z.marks) from h.o 1 _ rfl)
  obtain ⟨VA, vc, rfl⟩ := own_form (show W.ownsRow B 86 3 V z.works.length (wksCells z.works) from h.o 2 _ rfl)
  obtain ⟨LA, lc, rfl⟩ := own_form (show W.ownsRow B 3 1 L z.l.length (z.l.map vInt) from h.o 3 _ rfl)
  obtain ⟨XA, xc, rfl⟩ := own_form (show W.ownsRow B 47 4 X z.xs.length (qsC z.xs) from h.o 4 _ rfl)
  obtain ⟨PA, pc, rfl⟩ := own_form (show W.ownsRow B 91 6 P z.ps.length (pnsC z.ps) from h.o 5 _ rfl)
  have HE := Lib.hid hE
  have HBS : Hid (some bx ≠ (Value.slice SA z.steps.length sc).ownBlock) := fun e => by
    have h0 : W.ownsRow B 35 3 (.slice SA z.steps.length sc) z.steps.length (wksCells z.steps) := h.o 0 _ rfl
    have := (h0.lt bx e.symm).2
    omega
  have NBX : bx ≠ g := fun e => by have := h.c.lt; omega
  have a0 : W.cell? ⟨g, 0, none⟩ = some (.int .i64 p) := RowsH.cell h 0
  have a3 : W.cell? ⟨g, 3, none⟩ = some (.slice SA z.steps.length sc) := RowsH.cell h 3
  have hgW := h.c.lt
  have s3 : ((z.steps.length : Int) == 1000) = false := by simp; omega
  have h1 := RowsH.below h ((Below.refl W.heap.size W).alloc (Nat.le_refl _) (.cells #[.int .i64 kd, .int .i64 at_, .string wd] 35))
  have CM := Lib.hid (madeC g p (W.alloc (.cells #[.int .i64 kd, .int .i64 at_, .string wd] 35)) (by omega) (RowsH.cell h1 0))
  have CC := Lib.hid (checkC B g p s z _ _ _ _ _ _ kd at_ wd (W.alloc (.cells #[.int .i64 kd, .int .i64 at_, .string wd] 35)) h1 hwd)
  rw [hE] at CC
  have K1 : Has (W.alloc (.cells #[.int .i64 kd, .int .i64 at_, .string wd] 35)) bx 35 [.int .i64 kd, .int .i64 at_, .string wd] := by rw [hbx]; exact Has.new rfl
  have H1 := Lib.hid h1
  have B1 : Below B W (W.alloc (.cells #[.int .i64 kd, .int .i64 at_, .string wd] 35)) := (Below.refl _ _).alloc h.z _
  clear hE h1
  go_enter Try.func12, Try.ntmps12
  go_wp2_with fail
  refine CM.out.mono ?_
  rintro e w1 ⟨rfl, rfl⟩
  go_wp2_with fail
  refine CC.out.mono ?_
  rintro e w2 ⟨rfl, hb2⟩
  have h2 : RowsH w2 B g 81 _ _ := RowsH.below H1.out hb2
  have K2 := K1.below hb2 K1.lt
  have BLa := B1.trans (hb2.mono H1.out.z)
  have GG2 := Lib.hid (Grown.below (g := g) (vs := [.slice SA z.steps.length sc, .slice MA z.marks.length mc, .slice VA z.works.length vc, .slice LA z.l.length lc, .slice XA z.xs.length xc, .slice PA z.ps.length pc]) (bvia (show Below W.heap.size W (W.alloc (.cells #[.int .i64 kd, .int .i64 at_, .string wd] 35)) by go_grown) hb2))
  rw [← hbx]
  clear H1 K1 B1 hb2 CM CC a0 a3 h hgW hbx
  have H2 := Lib.hid h2
  have hK2 := Lib.hid K2
  clear h2 K2
  go_wp2
  refine wp_region_noPanic ?_
  refine wp_region_B (fun b w' => w'.cell? ⟨bx, 0, none⟩ = some (.int .i64 kd) ∧ w'.cell? ⟨bx, 1, none⟩ = some (.int .i64 at_) ∧ w'.cell? ⟨bx, 2, none⟩ = some (.string wd) ∧ (b = false → w'.cell? ⟨g, 3, none⟩ = some (.slice SA z.steps.length sc))) 10 (by kernel_rfl) ?_
  have hSSa : (fun b w' => w'.cell? ⟨bx, 0, none⟩ = some (.int .i64 kd) ∧ w'.cell? ⟨bx, 1, none⟩ = some (.int .i64 at_) ∧ w'.cell? ⟨bx, 2, none⟩ = some (.string wd) ∧ (b = false → w'.cell? ⟨g, 3, none⟩ = some (.slice SA z.steps.length sc))) false (w2.drew) := ⟨(hK2.out.drew).cell 0, (hK2.out.drew).cell 1, (hK2.out.drew).cell 2, fun _ => H2.out.c.drew.cell 3⟩
  refine wpAnyB_take (i := 0) (oi := _) (v := ?vva1) (fun w' => w'.cell? ⟨bx, 0, none⟩ = some (.int .i64 kd) ∧ w'.cell? ⟨bx, 1, none⟩ = some (.int .i64 at_) ∧ w'.cell? ⟨bx, 2, none⟩ = some (.string wd)) rfl (by kernel_rfl) (by kernel_rfl) (by kernel_rfl) (by kernel_rfl) (by rfl) (fun _ h => ⟨h.1, h.2.1, h.2.2.1⟩) (.inl fun _ h => ⟨h.1, h.2.1, h.2.2.1⟩) (fun _ _ _ h => h) (.inl ⟨by rfl, ?hya1⟩) hSSa ?_
  case hya1 =>
    intro w' hSw
    try dsimp only at hSw
    go_simp
    all_goals with_reducible rfl
  try simp only [Act.put, List.setIfInBounds_toArray]
  refine wpAnyB_take (i := 1) (oi := _) (v := ?vva2) (fun w' => w'.cell? ⟨bx, 0, none⟩ = some (.int .i64 kd) ∧ w'.cell? ⟨bx, 1, none⟩ = some (.int .i64 at_) ∧ w'.cell? ⟨bx, 2, none⟩ = some (.string wd)) rfl (by kernel_rfl) (by kernel_rfl) (by kernel_rfl) (by kernel_rfl) (by rfl) (fun _ h => ⟨h.1, h.2.1, h.2.2.1⟩) (.inl fun _ h => ⟨h.1, h.2.1, h.2.2.1⟩) (fun _ _ _ h => h) (.inl ⟨by rfl, ?hya2⟩) hSSa ?_
  case hya2 =>
    intro w' hSw
    try dsimp only at hSw
    go_simp
    all_goals with_reducible rfl
  try simp only [Act.put]
  refine wpAnyB_take (i := 2) (oi := _) (v := ?vva3) (fun w' => w'.cell? ⟨bx, 0, none⟩ = some (.int .i64 kd) ∧ w'.cell? ⟨bx, 1, none⟩ = some (.int .i64 at_) ∧ w'.cell? ⟨bx, 2, none⟩ = some (.string wd)) rfl (by kernel_rfl) (by kernel_rfl) (by kernel_rfl) (by kernel_rfl) (by rfl) (fun _ h => ⟨h.1, h.2.1, h.2.2.1⟩) (.inl fun _ h => ⟨h.1, h.2.1, h.2.2.1⟩) (fun _ _ _ h => h) (.inl ⟨by rfl, ?hya3⟩) hSSa ?_
  case hya3 =>
    intro w' hSw
    try dsimp only at hSw
    go_simp
    all_goals with_reducible rfl
  try simp only [Act.put]
  refine wpAnyB_take (i := 3) (oi := _) (v := ?vva4) (fun w' => w'.cell? ⟨bx, 0, none⟩ = some (.int .i64 kd) ∧ w'.cell? ⟨bx, 1, none⟩ = some (.int .i64 at_) ∧ w'.cell? ⟨bx, 2, none⟩ = some (.string wd)) rfl (by kernel_rfl) (by kernel_rfl) (by kernel_rfl) (by kernel_rfl) (by rfl) (fun _ h => ⟨h.1, h.2.1, h.2.2.1⟩) (.inl fun _ h => ⟨h.1, h.2.1, h.2.2.1⟩) (fun _ _ _ h => h) (.inl ⟨by rfl, ?hya4⟩) hSSa ?_
  case hya4 =>
    intro w' hSw
    try dsimp only at hSw
    go_simp
    all_goals with_reducible rfl
  try simp only [Act.put]
  refine wpAnyB_take (i := 4) (oi := _) (v := ?vva5) (fun w' => w'.cell? ⟨bx, 0, none⟩ = some (.int .i64 kd) ∧ w'.cell? ⟨bx, 1, none⟩ = some (.int .i64 at_) ∧ w'.cell? ⟨bx, 2, none⟩ = some (.string wd) ∧ w'.cell? ⟨g, 3, none⟩ = some (.slice SA z.steps.length sc)) rfl (by kernel_rfl) (by kernel_rfl) (by kernel_rfl) (by kernel_rfl) (by rfl) (fun _ h => ⟨h.1, h.2.1, h.2.2.1, h.2.2.2 rfl⟩) (.inr (by kernel_rfl)) (fun _ _ _ h => h) (.inl ⟨by rfl, ?hya5⟩) hSSa ?_
  case hya5 =>
    intro w' hSw
    try dsimp only at hSw
    go_simp
    all_goals with_reducible rfl
  try simp only [Act.put]
  refine wpAnyB_take (i := 5) (oi := _) (v := ?vva6) (fun w' => w'.cell? ⟨bx, 0, none⟩ = some (.int .i64 kd) ∧ w'.cell? ⟨bx, 1, none⟩ = some (.int .i64 at_) ∧ w'.cell? ⟨bx, 2, none⟩ = some (.string wd)) rfl (by kernel_rfl) (by kernel_rfl) (by kernel_rfl) (by kernel_rfl) (by rfl) (fun _ h => ⟨h.1, h.2.1, h.2.2.1⟩) (.inl fun _ h => ⟨h.1, h.2.1, h.2.2.1⟩) (fun _ _ _ h => h) (.inl ⟨by rfl, ?hya6⟩) hSSa ?_
  case hya6 =>
    intro w' hSw
    try dsimp only at hSw
    go_simp
    all_goals with_reducible rfl
  try simp only [Act.put]
  refine wpAnyB_one (i := 6) false rfl (by kernel_rfl) (by kernel_rfl) ?_
  intro KK hKK
  go_simp
  have h2 : RowsH (w2.alloc (.cells #[.int .i64 kd, .int .i64 at_, .string wd] 35)).drew B g 81 _ _ := (RowsH.below H2.out ((Below.refl _ w2).alloc (Nat.le_refl _) (.cells #[.int .i64 kd, .int .i64 at_, .string wd] 35))).drew
  have K2 := (hK2.out.alloc (.cells #[.int .i64 kd, .int .i64 at_, .string wd] 35)).drew
  have hn2 : ∀ p u, ([.int .i64 kd, .int .i64 at_, .string wd] : List Value)[p]? = some u → (w2.alloc (.cells #[.int .i64 kd, .int .i64 at_, .string wd] 35)).drew.cell? ⟨w2.heap.size, p, none⟩ = some u := fun p u hu => ((Has.new (w := w2) (t := 35) (cs := [.int .i64 kd, .int .i64 at_, .string wd]) rfl).drew.cell p).trans hu
  have B2 := (BLa.alloc H2.out.z (.cells #[.int .i64 kd, .int .i64 at_, .string wd] 35)).drew
  have D2 := ((Below.refl w2.heap.size w2).alloc (Nat.le_refl _) (.cells #[.int .i64 kd, .int .i64 at_, .string wd] 35)).drew
  generalize (w2.alloc (.cells #[.int .i64 kd, .int .i64 at_, .string wd] 35)).drew = W2 at *
  refine hKK.out _ _ ⟨(K2).cell 0, (K2).cell 1, (K2).cell 2, fun _ => h2.c.cell 3⟩ ?_
  clear hKK KK
  try simp only [Act.put, List.setIfInBounds_toArray, List.set_cons_zero, List.set_cons_succ]
  refine wpAnyB_one (i := 7) false rfl (by kernel_rfl) (by kernel_rfl) ?_
  intro KK hKK
  refine step_appN rfl (.tmp 31) (.tmp 33) 25 rfl B 35 (.agg #[.int .i64 0, .int .i64 0, .string ⟨#[]⟩]) 3 32 Try.underlying25 infoCs rfl (by omega) (by omega) (.slice SA z.steps.length sc) z.steps.length (wksCells z.steps) rfl (h2.o 0 _ rfl) ⟨w2.heap.size, 0, none⟩ 1 1 [.int .i64 kd, .int .i64 at_, .string wd] rfl rfl (fun j u hu => by rw [Addr.add_lit, Nat.zero_add]; exact hn2 j u hu) (by simp [Value.oneCell']) (by omega) h2.z ?_
  intro v' w4 hown4 hgrow4 hnil4 hor4
  obtain ⟨A4, c4, rfl⟩ := own_form hown4
  have h4c : Has w4 g 81 _ := h2.c.same (hgrow4.block _ h2.c.lt (fun e => h2.ne (i := 0) rfl e.symm))
  have K4 := K2.same (hgrow4.block _ K2.lt (HBS.out))
  have B4 := B2.grown hgrow4 h2.z (fun k hk => ((h2.o 0 _ rfl).lt k hk).1)
  refine hKK.out _ _ ⟨(K4).cell 0, (K4).cell 1, (K4).cell 2, fun _ => h4c.cell 3⟩ ?_
  clear hKK KK
  try simp only [Act.put, List.setIfInBounds_toArray]
  refine wpAnyB_take (i := 8) (oi := _) (v := ?vva7) (fun w' => w'.cell? ⟨bx, 0, none⟩ = some (.int .i64 kd) ∧ w'.cell? ⟨bx, 1, none⟩ = some (.int .i64 at_) ∧ w'.cell? ⟨bx, 2, none⟩ = some (.string wd)) rfl (by kernel_rfl) (by kernel_rfl) (by kernel_rfl) (by kernel_rfl) (by rfl) (fun _ h => ⟨h.1, h.2.1, h.2.2.1⟩) (.inl fun _ h => ⟨h.1, h.2.1, h.2.2.1⟩) (fun _ _ _ h => h) (.inl ⟨by rfl, ?hya7⟩) ⟨(K4).cell 0, (K4).cell 1, (K4).cell 2, fun _ => h4c.cell 3⟩ ?_
  case hya7 =>
    intro w' hSw
    try dsimp only at hSw
    go_simp
    all_goals with_reducible rfl
  try simp only [Act.put]
  refine wpAnyB_take (i := 9) (oi := _) (v := ?vva8) (fun w' => w'.cell? ⟨bx, 0, none⟩ = some (.int .i64 kd) ∧ w'.cell? ⟨bx, 1, none⟩ = some (.int .i64 at_) ∧ w'.cell? ⟨bx, 2, none⟩ = some (.string wd)) rfl (by kernel_rfl) (by kernel_rfl) (by kernel_rfl) (by kernel_rfl) (by rfl) (fun _ h => ⟨h.1, h.2.1, h.2.2.1⟩) (.inl fun _ h => ⟨h.1, h.2.1, h.2.2.1⟩) (fun _ _ _ h => h) (.inl ⟨by rfl, ?hya8⟩) ⟨(K4).cell 0, (K4).cell 1, (K4).cell 2, fun _ => h4c.cell 3⟩ ?_
  case hya8 =>
    intro w' hSw
    try dsimp only at hSw
    go_simp
    all_goals with_reducible rfl
  try simp only [Act.put]
  refine wpAnyB_one (i := 10) true rfl (by kernel_rfl) (by kernel_rfl) ?_
  intro KK hKK
  have f4 := h4c.free 3
  have q4 := h4c.lt
  have s4 : w4.cell? ⟨g, 3, none⟩ = some (.slice SA z.steps.length sc) := h4c.cell 3
  go_simp
  refine hKK.out _ _ ⟨(K4.far (fun e => NBX e) 3 (.slice A4 (z.steps.length + 1) c4)).cell 0, (K4.far (fun e => NBX e) 3 (.slice A4 (z.steps.length + 1) c4)).cell 1, (K4.far (fun e => NBX e) 3 (.slice A4 (z.steps.length + 1) c4)).cell 2, fun hh => by cases hh⟩ ?_
  clear hKK KK
  try simp only [Act.put, List.setIfInBounds_toArray, List.set_cons_zero, List.set_cons_succ]
  refine wpAnyB_done (by kernel_rfl) (NoPanic.normal ?_) _
  have h5 := RowsH.grow h2 (i := 0) rfl hgrow4 hown4 3 rfl
  have K5 := K4.far (fun e => NBX e) 3 (.slice A4 (z.steps.length + 1) c4)
  have B5 := B4.setCell (p := ⟨g, 3, none⟩) H2.out.b (.slice A4 (z.steps.length + 1) c4)
  have G5 : Grown g w2 [(.slice SA z.steps.length sc), (.slice MA z.marks.length mc), (.slice VA z.works.length vc), (.slice LA z.l.length lc), (.slice XA z.xs.length xc), (.slice PA z.ps.length pc)] (w4.setCell ⟨g, 3, none⟩ (.slice A4 (z.steps.length + 1) c4)) [(.slice A4 (z.steps.length + 1) c4), (.slice MA z.marks.length mc), (.slice VA z.works.length vc), (.slice LA z.l.length lc), (.slice XA z.xs.length xc), (.slice PA z.ps.length pc)] := (Grown.below D2).trans (Grown.grow (i := 0) rfl hgrow4 hor4 3)
  have H8 : Hid (PilH (w4.setCell ⟨g, 3, none⟩ (.slice A4 (z.steps.length + 1) c4)) B g p s { z with steps := z.steps ++ [⟨kd, at_, wd⟩] } (.slice A4 (z.steps.length + 1) c4) (.slice MA z.marks.length mc) (.slice VA z.works.length vc) (.slice LA z.l.length lc) (.slice XA z.xs.length xc) (.slice PA z.ps.length pc)) := by
    show RowsH _ _ _ _ _ _
    rw [rows_steps]
    exact h5
  have K8 := Lib.hid K5
  have BLb := B5
  have GG8 : Hid (Grown g W [.slice SA z.steps.length sc, .slice MA z.marks.length mc, .slice VA z.works.length vc, .slice LA z.l.length lc, .slice XA z.xs.length xc, .slice PA z.ps.length pc] (w4.setCell ⟨g, 3, none⟩ (.slice A4 (z.steps.length + 1) c4)) [.slice A4 (z.steps.length + 1) c4, .slice MA z.marks.length mc, .slice VA z.works.length vc, .slice LA z.l.length lc, .slice XA z.xs.length xc, .slice PA z.ps.length pc]) := GG2.out.trans G5
  generalize hW8 : (w4.setCell ⟨g, 3, none⟩ (.slice A4 (z.steps.length + 1) c4)) = W8 at *
  clear h5 K5 B5 G5 GG2 D2 hW8 H2 hK2 BLa h2 K2 B2 B4 h4c K4 hn2 hown4 hgrow4 hnil4 hor4 f4 q4 s4 hSSa
  obtain ⟨S8, hS8⟩ : ∃ S8 : Value, S8 = (.slice A4 (z.steps.length + 1) c4) := ⟨_, rfl⟩
  rw [← hS8] at H8 GG8
  clear hS8
  go_wp2
  refine wp_region_noPanic ?_
  refine wp_region_B (fun b w' => w'.cell? ⟨g, 2, none⟩ = some (.int .i64 z.hands) ∧ w'.cell? ⟨g, 5, none⟩ = some (.slice VA z.works.length vc) ∧ w'.cell? ⟨g, 7, none⟩ = some (.slice XA z.xs.length xc) ∧ w'.cell? ⟨g, 8, none⟩ = some (.slice PA z.ps.length pc) ∧ (b = false → w'.cell? ⟨g, 4, none⟩ = some (.slice MA z.marks.length mc))) 29 (by kernel_rfl) ?_
  have hSSb : (fun b w' => w'.cell? ⟨g, 2, none⟩ = some (.int .i64 z.hands) ∧ w'.cell? ⟨g, 5, none⟩ = some (.slice VA z.works.length vc) ∧ w'.cell? ⟨g, 7, none⟩ = some (.slice XA z.xs.length xc) ∧ w'.cell? ⟨g, 8, none⟩ = some (.slice PA z.ps.length pc) ∧ (b = false → w'.cell? ⟨g, 4, none⟩ = some (.slice MA z.marks.length mc))) false (W8.drew) := ⟨(H8.out.c.drew).cell 2, (H8.out.c.drew).cell 5, (H8.out.c.drew).cell 7, (H8.out.c.drew).cell 8, fun _ => H8.out.c.drew.cell 4⟩
  refine wpAnyB_take (i := 0) (oi := _) (v := ?vvb1) (fun w' => w'.cell? ⟨g, 2, none⟩ = some (.int .i64 z.hands) ∧ w'.cell? ⟨g, 5, none⟩ = some (.slice VA z.works.length vc) ∧ w'.cell? ⟨g, 7, none⟩ = some (.slice XA z.xs.length xc) ∧ w'.cell? ⟨g, 8, none⟩ = some (.slice PA z.ps.length pc)) rfl (by kernel_rfl) (by kernel_rfl) (by kernel_rfl) (by kernel_rfl) (by rfl) (fun _ h => ⟨h.1, h.2.1, h.2.2.1, h.2.2.2.1⟩) (.inl fun _ h => ⟨h.1, h.2.1, h.2.2.1, h.2.2.2.1⟩) (fun _ _ _ h => h) (.inl ⟨by rfl, ?hyb1⟩) hSSb ?_
  case hyb1 =>
    intro w' hSw
    try dsimp only at hSw
    go_simp
    all_goals with_reducible rfl
  try simp only [Act.put, List.setIfInBounds_toArray]
  refine wpAnyB_take (i := 1) (oi := _) (v := ?vvb2) (fun w' => w'.cell? ⟨g, 2, none⟩ = some (.int .i64 z.hands) ∧ w'.cell? ⟨g, 5, none⟩ = some (.slice VA z.works.length vc) ∧ w'.cell? ⟨g, 7, none⟩ = some (.slice XA z.xs.length xc) ∧ w'.cell? ⟨g, 8, none⟩ = some (.slice PA z.ps.length pc)) rfl (by kernel_rfl) (by kernel_rfl) (by kernel_rfl) (by kernel_rfl) (by rfl) (fun _ h => ⟨h.1, h.2.1, h.2.2.1, h.2.2.2.1⟩) (.inl fun _ h => ⟨h.1, h.2.1, h.2.2.1, h.2.2.2.1⟩) (fun _ _ _ h => h) (.inl ⟨by rfl, ?hyb2⟩) hSSb ?_
  case hyb2 =>
    intro w' hSw
    try dsimp only at hSw
    go_simp
    all_goals with_reducible rfl
  try simp only [Act.put]
  refine wpAnyB_take (i := 2) (oi := _) (v := ?vvb3) (fun w' => w'.cell? ⟨g, 2, none⟩ = some (.int .i64 z.hands) ∧ w'.cell? ⟨g, 5, none⟩ = some (.slice VA z.works.length vc) ∧ w'.cell? ⟨g, 7, none⟩ = some (.slice XA z.xs.length xc) ∧ w'.cell? ⟨g, 8, none⟩ = some (.slice PA z.ps.length pc)) rfl (by kernel_rfl) (by kernel_rfl) (by kernel_rfl) (by kernel_rfl) (by rfl) (fun _ h => ⟨h.1, h.2.1, h.2.2.1, h.2.2.2.1⟩) (.inl fun _ h => ⟨h.1, h.2.1, h.2.2.1, h.2.2.2.1⟩) (fun _ _ _ h => h) (.inl ⟨by rfl, ?hyb3⟩) hSSb ?_
  case hyb3 =>
    intro w' hSw
    try dsimp only at hSw
    go_simp
    all_goals with_reducible rfl
  try simp only [Act.put]
  refine wpAnyB_take (i := 3) (oi := _) (v := ?vvb4) (fun w' => w'.cell? ⟨g, 2, none⟩ = some (.int .i64 z.hands) ∧ w'.cell? ⟨g, 5, none⟩ = some (.slice VA z.works.length vc) ∧ w'.cell? ⟨g, 7, none⟩ = some (.slice XA z.xs.length xc) ∧ w'.cell? ⟨g, 8, none⟩ = some (.slice PA z.ps.length pc)) rfl (by kernel_rfl) (by kernel_rfl) (by kernel_rfl) (by kernel_rfl) (by rfl) (fun _ h => ⟨h.1, h.2.1, h.2.2.1, h.2.2.2.1⟩) (.inl fun _ h => ⟨h.1, h.2.1, h.2.2.1, h.2.2.2.1⟩) (fun _ _ _ h => h) (.inl ⟨by rfl, ?hyb4⟩) hSSb ?_
  case hyb4 =>
    intro w' hSw
    try dsimp only at hSw
    go_simp
    all_goals with_reducible rfl
  try simp only [Act.put]
  refine wpAnyB_take (i := 4) (oi := _) (v := ?vvb5) (fun w' => w'.cell? ⟨g, 2, none⟩ = some (.int .i64 z.hands) ∧ w'.cell? ⟨g, 5, none⟩ = some (.slice VA z.works.length vc) ∧ w'.cell? ⟨g, 7, none⟩ = some (.slice XA z.xs.length xc) ∧ w'.cell? ⟨g, 8, none⟩ = some (.slice PA z.ps.length pc) ∧ w'.cell? ⟨g, 4, none⟩ = some (.slice MA z.marks.length mc)) rfl (by kernel_rfl) (by kernel_rfl) (by kernel_rfl) (by kernel_rfl) (by rfl) (fun _ h => ⟨h.1, h.2.1, h.2.2.1, h.2.2.2.1, h.2.2.2.2 rfl⟩) (.inr (by kernel_rfl)) (fun _ _ _ h => h) (.inl ⟨by rfl, ?hyb5⟩) hSSb ?_
  case hyb5 =>
    intro w' hSw
    try dsimp only at hSw
    go_simp
    all_goals with_reducible rfl
  try simp only [Act.put]
  refine wpAnyB_take (i := 5) (oi := _) (v := ?vvb6) (fun w' => w'.cell? ⟨g, 2, none⟩ = some (.int .i64 z.hands) ∧ w'.cell? ⟨g, 5, none⟩ = some (.slice VA z.works.length vc) ∧ w'.cell? ⟨g, 7, none⟩ = some (.slice XA z.xs.length xc) ∧ w'.cell? ⟨g, 8, none⟩ = some (.slice PA z.ps.length pc)) rfl (by kernel_rfl) (by kernel_rfl) (by kernel_rfl) (by kernel_rfl) (by rfl) (fun _ h => ⟨h.1, h.2.1, h.2.2.1, h.2.2.2.1⟩) (.inl fun _ h => ⟨h.1, h.2.1, h.2.2.1, h.2.2.2.1⟩) (fun _ _ _ h => h) (.inl ⟨by rfl, ?hyb6⟩) hSSb ?_
  case hyb6 =>
    intro w' hSw
    try dsimp only at hSw
    go_simp
    all_goals with_reducible rfl
  try simp only [Act.put]
  refine wpAnyB_take (i := 6) (oi := _) (v := ?vvb7) (fun w' => w'.cell? ⟨g, 2, none⟩ = some (.int .i64 z.hands) ∧ w'.cell? ⟨g, 5, none⟩ = some (.slice VA z.works.length vc) ∧ w'.cell? ⟨g, 7, none⟩ = some (.slice XA z.xs.length xc) ∧ w'.cell? ⟨g, 8, none⟩ = some (.slice PA z.ps.length pc)) rfl (by kernel_rfl) (by kernel_rfl) (by kernel_rfl) (by kernel_rfl) (by rfl) (fun _ h => ⟨h.1, h.2.1, h.2.2.1, h.2.2.2.1⟩) (.inl fun _ h => ⟨h.1, h.2.1, h.2.2.1, h.2.2.2.1⟩) (fun _ _ _ h => h) (.inl ⟨by rfl, ?hyb7⟩) hSSb ?_
  case hyb7 =>
    intro w' hSw
    try dsimp only at hSw
    go_simp
    all_goals with_reducible rfl
  try simp only [Act.put]
  refine wpAnyB_take (i := 7) (oi := _) (v := ?vvb8) (fun w' => w'.cell? ⟨g, 2, none⟩ = some (.int .i64 z.hands) ∧ w'.cell? ⟨g, 5, none⟩ = some (.slice VA z.works.length vc) ∧ w'.cell? ⟨g, 7, none⟩ = some (.slice XA z.xs.length xc) ∧ w'.cell? ⟨g, 8, none⟩ = some (.slice PA z.ps.length pc)) rfl (by kernel_rfl) (by kernel_rfl) (by kernel_rfl) (by kernel_rfl) (by rfl) (fun _ h => ⟨h.1, h.2.1, h.2.2.1, h.2.2.2.1⟩) (.inl fun _ h => ⟨h.1, h.2.1, h.2.2.1, h.2.2.2.1⟩) (fun _ _ _ h => h) (.inl ⟨by rfl, ?hyb8⟩) hSSb ?_
  case hyb8 =>
    intro w' hSw
    try dsimp only at hSw
    go_simp
    all_goals with_reducible rfl
  try simp only [Act.put]
  refine wpAnyB_take (i := 8) (oi := _) (v := ?vvb9) (fun w' => w'.cell? ⟨g, 2, none⟩ = some (.int .i64 z.hands) ∧ w'.cell? ⟨g, 5, none⟩ = some (.slice VA z.works.length vc) ∧ w'.cell? ⟨g, 7, none⟩ = some (.slice XA z.xs.length xc) ∧ w'.cell? ⟨g, 8, none⟩ = some (.slice PA z.ps.length pc)) rfl (by kernel_rfl) (by kernel_rfl) (by kernel_rfl) (by kernel_rfl) (by rfl) (fun _ h => ⟨h.1, h.2.1, h.2.2.1, h.2.2.2.1⟩) (.inl fun _ h => ⟨h.1, h.2.1, h.2.2.1, h.2.2.2.1⟩) (fun _ _ _ h => h) (.inl ⟨by rfl, ?hyb9⟩) hSSb ?_
  case hyb9 =>
    intro w' hSw
    try dsimp only at hSw
    go_simp
    all_goals with_reducible rfl
  try simp only [Act.put]
  refine wpAnyB_take (i := 9) (oi := _) (v := ?vvb10) (fun w' => w'.cell? ⟨g, 2, none⟩ = some (.int .i64 z.hands) ∧ w'.cell? ⟨g, 5, none⟩ = some (.slice VA z.works.length vc) ∧ w'.cell? ⟨g, 7, none⟩ = some (.slice XA z.xs.length xc) ∧ w'.cell? ⟨g, 8, none⟩ = some (.slice PA z.ps.length pc)) rfl (by kernel_rfl) (by kernel_rfl) (by kernel_rfl) (by kernel_rfl) (by rfl) (fun _ h => ⟨h.1, h.2.1, h.2.2.1, h.2.2.2.1⟩) (.inl fun _ h => ⟨h.1, h.2.1, h.2.2.1, h.2.2.2.1⟩) (fun _ _ _ h => h) (.inl ⟨by rfl, ?hyb10⟩) hSSb ?_
  case hyb10 =>
    intro w' hSw
    try dsimp only at hSw
    go_simp
    all_goals with_reducible rfl
  try simp only [Act.put]
  refine wpAnyB_take (i := 10) (oi := _) (v := ?vvb11) (fun w' => w'.cell? ⟨g, 2, none⟩ = some (.int .i64 z.hands) ∧ w'.cell? ⟨g, 5, none⟩ = some (.slice VA z.works.length vc) ∧ w'.cell? ⟨g, 7, none⟩ = some (.slice XA z.xs.length xc) ∧ w'.cell? ⟨g, 8, none⟩ = some (.slice PA z.ps.length pc)) rfl (by kernel_rfl) (by kernel_rfl) (by kernel_rfl) (by kernel_rfl) (by rfl) (fun _ h => ⟨h.1, h.2.1, h.2.2.1, h.2.2.2.1⟩) (.inl fun _ h => ⟨h.1, h.2.1, h.2.2.1, h.2.2.2.1⟩) (fun _ _ _ h => h) (.inl ⟨by rfl, ?hyb11⟩) hSSb ?_
  case hyb11 =>
    intro w' hSw
    try dsimp only at hSw
    go_simp
    all_goals with_reducible rfl
  try simp only [Act.put]
  refine wpAnyB_take (i := 11) (oi := _) (v := ?vvb12) (fun w' => w'.cell? ⟨g, 2, none⟩ = some (.int .i64 z.hands) ∧ w'.cell? ⟨g, 5, none⟩ = some (.slice VA z.works.length vc) ∧ w'.cell? ⟨g, 7, none⟩ = some (.slice XA z.xs.length xc) ∧ w'.cell? ⟨g, 8, none⟩ = some (.slice PA z.ps.length pc)) rfl (by kernel_rfl) (by kernel_rfl) (by kernel_rfl) (by kernel_rfl) (by rfl) (fun _ h => ⟨h.1, h.2.1, h.2.2.1, h.2.2.2.1⟩) (.inl fun _ h => ⟨h.1, h.2.1, h.2.2.1, h.2.2.2.1⟩) (fun _ _ _ h => h) (.inl ⟨by rfl, ?hyb12⟩) hSSb ?_
  case hyb12 =>
    intro w' hSw
    try dsimp only at hSw
    go_simp
    all_goals with_reducible rfl
  try simp only [Act.put]
  refine wpAnyB_take (i := 12) (oi := _) (v := ?vvb13) (fun w' => w'.cell? ⟨g, 2, none⟩ = some (.int .i64 z.hands) ∧ w'.cell? ⟨g, 5, none⟩ = some (.slice VA z.works.length vc) ∧ w'.cell? ⟨g, 7, none⟩ = some (.slice XA z.xs.length xc) ∧ w'.cell? ⟨g, 8, none⟩ = some (.slice PA z.ps.length pc)) rfl (by kernel_rfl) (by kernel_rfl) (by kernel_rfl) (by kernel_rfl) (by rfl) (fun _ h => ⟨h.1, h.2.1, h.2.2.1, h.2.2.2.1⟩) (.inl fun _ h => ⟨h.1, h.2.1, h.2.2.1, h.2.2.2.1⟩) (fun _ _ _ h => h) (.inl ⟨by rfl, ?hyb13⟩) hSSb ?_
  case hyb13 =>
    intro w' hSw
    try dsimp only at hSw
    go_simp
    all_goals with_reducible rfl
  try simp only [Act.put]
  refine wpAnyB_take (i := 13) (oi := _) (v := ?vvb14) (fun w' => w'.cell? ⟨g, 2, none⟩ = some (.int .i64 z.hands) ∧ w'.cell? ⟨g, 5, none⟩ = some (.slice VA z.works.length vc) ∧ w'.cell? ⟨g, 7, none⟩ = some (.slice XA z.xs.length xc) ∧ w'.cell? ⟨g, 8, none⟩ = some (.slice PA z.ps.length pc)) rfl (by kernel_rfl) (by kernel_rfl) (by kernel_rfl) (by kernel_rfl) (by rfl) (fun _ h => ⟨h.1, h.2.1, h.2.2.1, h.2.2.2.1⟩) (.inl fun _ h => ⟨h.1, h.2.1, h.2.2.1, h.2.2.2.1⟩) (fun _ _ _ h => h) (.inl ⟨by rfl, ?hyb14⟩) hSSb ?_
  case hyb14 =>
    intro w' hSw
    try dsimp only at hSw
    go_simp
    all_goals with_reducible rfl
  try simp only [Act.put]
  refine wpAnyB_take (i := 14) (oi := _) (v := ?vvb15) (fun w' => w'.cell? ⟨g, 2, none⟩ = some (.int .i64 z.hands) ∧ w'.cell? ⟨g, 5, none⟩ = some (.slice VA z.works.length vc) ∧ w'.cell? ⟨g, 7, none⟩ = some (.slice XA z.xs.length xc) ∧ w'.cell? ⟨g, 8, none⟩ = some (.slice PA z.ps.length pc)) rfl (by kernel_rfl) (by kernel_rfl) (by kernel_rfl) (by kernel_rfl) (by rfl) (fun _ h => ⟨h.1, h.2.1, h.2.2.1, h.2.2.2.1⟩) (.inl fun _ h => ⟨h.1, h.2.1, h.2.2.1, h.2.2.2.1⟩) (fun _ _ _ h => h) (.inl ⟨by rfl, ?hyb15⟩) hSSb ?_
  case hyb15 =>
    intro w' hSw
    try dsimp only at hSw
    go_simp
    all_goals with_reducible rfl
  try simp only [Act.put]
  refine wpAnyB_take (i := 15) (oi := _) (v := ?vvb16) (fun w' => w'.cell? ⟨g, 2, none⟩ = some (.int .i64 z.hands) ∧ w'.cell? ⟨g, 5, none⟩ = some (.slice VA z.works.length vc) ∧ w'.cell? ⟨g, 7, none⟩ = some (.slice XA z.xs.length xc) ∧ w'.cell? ⟨g, 8, none⟩ = some (.slice PA z.ps.length pc)) rfl (by kernel_rfl) (by kernel_rfl) (by kernel_rfl) (by kernel_rfl) (by rfl) (fun _ h => ⟨h.1, h.2.1, h.2.2.1, h.2.2.2.1⟩) (.inl fun _ h => ⟨h.1, h.2.1, h.2.2.1, h.2.2.2.1⟩) (fun _ _ _ h => h) (.inl ⟨by rfl, ?hyb16⟩) hSSb ?_
  case hyb16 =>
    intro w' hSw
    try dsimp only at hSw
    go_simp
    all_goals with_reducible rfl
  try simp only [Act.put]
  refine wpAnyB_take (i := 16) (oi := _) (v := ?vvb17) (fun w' => w'.cell? ⟨g, 2, none⟩ = some (.int .i64 z.hands) ∧ w'.cell? ⟨g, 5, none⟩ = some (.slice VA z.works.length vc) ∧ w'.cell? ⟨g, 7, none⟩ = some (.slice XA z.xs.length xc) ∧ w'.cell? ⟨g, 8, none⟩ = some (.slice PA z.ps.length pc)) rfl (by kernel_rfl) (by kernel_rfl) (by kernel_rfl) (by kernel_rfl) (by rfl) (fun _ h => ⟨h.1, h.2.1, h.2.2.1, h.2.2.2.1⟩) (.inl fun _ h => ⟨h.1, h.2.1, h.2.2.1, h.2.2.2.1⟩) (fun _ _ _ h => h) (.inl ⟨by rfl, ?hyb17⟩) hSSb ?_
  case hyb17 =>
    intro w' hSw
    try dsimp only at hSw
    go_simp
    all_goals with_reducible rfl
  try simp only [Act.put]
  refine wpAnyB_take (i := 17) (oi := _) (v := ?vvb18) (fun w' => w'.cell? ⟨g, 2, none⟩ = some (.int .i64 z.hands) ∧ w'.cell? ⟨g, 5, none⟩ = some (.slice VA z.works.length vc) ∧ w'.cell? ⟨g, 7, none⟩ = some (.slice XA z.xs.length xc) ∧ w'.cell? ⟨g, 8, none⟩ = some (.slice PA z.ps.length pc)) rfl (by kernel_rfl) (by kernel_rfl) (by kernel_rfl) (by kernel_rfl) (by rfl) (fun _ h => ⟨h.1, h.2.1, h.2.2.1, h.2.2.2.1⟩) (.inl fun _ h => ⟨h.1, h.2.1, h.2.2.1, h.2.2.2.1⟩) (fun _ _ _ h => h) (.inl ⟨by rfl, ?hyb18⟩) hSSb ?_
  case hyb18 =>
    intro w' hSw
    try dsimp only at hSw
    go_simp
    all_goals with_reducible rfl
  try simp only [Act.put]
  refine wpAnyB_take (i := 18) (oi := _) (v := ?vvb19) (fun w' => w'.cell? ⟨g, 2, none⟩ = some (.int .i64 z.hands) ∧ w'.cell? ⟨g, 5, none⟩ = some (.slice VA z.works.length vc) ∧ w'.cell? ⟨g, 7, none⟩ = some (.slice XA z.xs.length xc) ∧ w'.cell? ⟨g, 8, none⟩ = some (.slice PA z.ps.length pc)) rfl (by kernel_rfl) (by kernel_rfl) (by kernel_rfl) (by kernel_rfl) (by rfl) (fun _ h => ⟨h.1, h.2.1, h.2.2.1, h.2.2.2.1⟩) (.inl fun _ h => ⟨h.1, h.2.1, h.2.2.1, h.2.2.2.1⟩) (fun _ _ _ h => h) (.inl ⟨by rfl, ?hyb19⟩) hSSb ?_
  case hyb19 =>
    intro w' hSw
    try dsimp only at hSw
    go_simp
    all_goals with_reducible rfl
  try simp only [Act.put]
  refine wpAnyB_take (i := 19) (oi := _) (v := ?vvb20) (fun w' => w'.cell? ⟨g, 2, none⟩ = some (.int .i64 z.hands) ∧ w'.cell? ⟨g, 5, none⟩ = some (.slice VA z.works.length vc) ∧ w'.cell? ⟨g, 7, none⟩ = some (.slice XA z.xs.length xc) ∧ w'.cell? ⟨g, 8, none⟩ = some (.slice PA z.ps.length pc)) rfl (by kernel_rfl) (by kernel_rfl) (by kernel_rfl) (by kernel_rfl) (by rfl) (fun _ h => ⟨h.1, h.2.1, h.2.2.1, h.2.2.2.1⟩) (.inl fun _ h => ⟨h.1, h.2.1, h.2.2.1, h.2.2.2.1⟩) (fun _ _ _ h => h) (.inl ⟨by rfl, ?hyb20⟩) hSSb ?_
  case hyb20 =>
    intro w' hSw
    try dsimp only at hSw
    go_simp
    all_goals with_reducible rfl
  try simp only [Act.put]
  refine wpAnyB_take (i := 20) (oi := _) (v := ?vvb21) (fun w' => w'.cell? ⟨g, 2, none⟩ = some (.int .i64 z.hands) ∧ w'.cell? ⟨g, 5, none⟩ = some (.slice VA z.works.length vc) ∧ w'.cell? ⟨g, 7, none⟩ = some (.slice XA z.xs.length xc) ∧ w'.cell? ⟨g, 8, none⟩ = some (.slice PA z.ps.length pc)) rfl (by kernel_rfl) (by kernel_rfl) (by kernel_rfl) (by kernel_rfl) (by rfl) (fun _ h => ⟨h.1, h.2.1, h.2.2.1, h.2.2.2.1⟩) (.inl fun _ h => ⟨h.1, h.2.1, h.2.2.1, h.2.2.2.1⟩) (fun _ _ _ h => h) (.inl ⟨by rfl, ?hyb21⟩) hSSb ?_
  case hyb21 =>
    intro w' hSw
    try dsimp only at hSw
    go_simp
    all_goals with_reducible rfl
  try simp only [Act.put]
  refine wpAnyB_take (i := 21) (oi := _) (v := ?vvb22) (fun w' => w'.cell? ⟨g, 2, none⟩ = some (.int .i64 z.hands) ∧ w'.cell? ⟨g, 5, none⟩ = some (.slice VA z.works.length vc) ∧ w'.cell? ⟨g, 7, none⟩ = some (.slice XA z.xs.length xc) ∧ w'.cell? ⟨g, 8, none⟩ = some (.slice PA z.ps.length pc)) rfl (by kernel_rfl) (by kernel_rfl) (by kernel_rfl) (by kernel_rfl) (by rfl) (fun _ h => ⟨h.1, h.2.1, h.2.2.1, h.2.2.2.1⟩) (.inl fun _ h => ⟨h.1, h.2.1, h.2.2.1, h.2.2.2.1⟩) (fun _ _ _ h => h) (.inl ⟨by rfl, ?hyb22⟩) hSSb ?_
  case hyb22 =>
    intro w' hSw
    try dsimp only at hSw
    go_simp
    all_goals with_reducible rfl
  try simp only [Act.put]
  refine wpAnyB_take (i := 22) (oi := _) (v := ?vvb23) (fun w' => w'.cell? ⟨g, 2, none⟩ = some (.int .i64 z.hands) ∧ w'.cell? ⟨g, 5, none⟩ = some (.slice VA z.works.length vc) ∧ w'.cell? ⟨g, 7, none⟩ = some (.slice XA z.xs.length xc) ∧ w'.cell? ⟨g, 8, none⟩ = some (.slice PA z.ps.length pc)) rfl (by kernel_rfl) (by kernel_rfl) (by kernel_rfl) (by kernel_rfl) (by rfl) (fun _ h => ⟨h.1, h.2.1, h.2.2.1, h.2.2.2.1⟩) (.inl fun _ h => ⟨h.1, h.2.1, h.2.2.1, h.2.2.2.1⟩) (fun _ _ _ h => h) (.inl ⟨by rfl, ?hyb23⟩) hSSb ?_
  case hyb23 =>
    intro w' hSw
    try dsimp only at hSw
    go_simp
    all_goals with_reducible rfl
  try simp only [Act.put]
  refine wpAnyB_take (i := 23) (oi := _) (v := ?vvb24) (fun w' => w'.cell? ⟨g, 2, none⟩ = some (.int .i64 z.hands) ∧ w'.cell? ⟨g, 5, none⟩ = some (.slice VA z.works.length vc) ∧ w'.cell? ⟨g, 7, none⟩ = some (.slice XA z.xs.length xc) ∧ w'.cell? ⟨g, 8, none⟩ = some (.slice PA z.ps.length pc)) rfl (by kernel_rfl) (by kernel_rfl) (by kernel_rfl) (by kernel_rfl) (by rfl) (fun _ h => ⟨h.1, h.2.1, h.2.2.1, h.2.2.2.1⟩) (.inl fun _ h => ⟨h.1, h.2.1, h.2.2.1, h.2.2.2.1⟩) (fun _ _ _ h => h) (.inl ⟨by rfl, ?hyb24⟩) hSSb ?_
  case hyb24 =>
    intro w' hSw
    try dsimp only at hSw
    go_simp
    all_goals with_reducible rfl
  try simp only [Act.put]
  refine wpAnyB_take (i := 24) (oi := _) (v := ?vvb25) (fun w' => w'.cell? ⟨g, 2, none⟩ = some (.int .i64 z.hands) ∧ w'.cell? ⟨g, 5, none⟩ = some (.slice VA z.works.length vc) ∧ w'.cell? ⟨g, 7, none⟩ = some (.slice XA z.xs.length xc) ∧ w'.cell? ⟨g, 8, none⟩ = some (.slice PA z.ps.length pc)) rfl (by kernel_rfl) (by kernel_rfl) (by kernel_rfl) (by kernel_rfl) (by rfl) (fun _ h => ⟨h.1, h.2.1, h.2.2.1, h.2.2.2.1⟩) (.inl fun _ h => ⟨h.1, h.2.1, h.2.2.1, h.2.2.2.1⟩) (fun _ _ _ h => h) (.inl ⟨by rfl, ?hyb25⟩) hSSb ?_
  case hyb25 =>
    intro w' hSw
    try dsimp only at hSw
    go_simp
    all_goals with_reducible rfl
  try simp only [Act.put]
  refine wpAnyB_one (i := 25) false rfl (by kernel_rfl) (by kernel_rfl) ?_
  intro KK hKK
  go_simp
  have h2 : RowsH (W8.alloc (.cells #[.int .i64 z.hands, .int .i64 (z.works.length : Int), .int .i64 (z.xs.length : Int), .int .i64 (z.ps.length : Int)] 83)).drew B g 81 _ _ := (RowsH.below H8.out ((Below.refl _ W8).alloc (Nat.le_refl _) (.cells #[.int .i64 z.hands, .int .i64 (z.works.length : Int), .int .i64 (z.xs.length : Int), .int .i64 (z.ps.length : Int)] 83))).drew
  have K2 := (K8.out.alloc (.cells #[.int .i64 z.hands, .int .i64 (z.works.length : Int), .int .i64 (z.xs.length : Int), .int .i64 (z.ps.length : Int)] 83)).drew
  have hn2 : ∀ p u, ([.int .i64 z.hands, .int .i64 (z.works.length : Int), .int .i64 (z.xs.length : Int), .int .i64 (z.ps.length : Int)] : List Value)[p]? = some u → (W8.alloc (.cells #[.int .i64 z.hands, .int .i64 (z.works.length : Int), .int .i64 (z.xs.length : Int), .int .i64 (z.ps.length : Int)] 83)).drew.cell? ⟨W8.heap.size, p, none⟩ = some u := fun p u hu => ((Has.new (w := W8) (t := 83) (cs := [.int .i64 z.hands, .int .i64 (z.works.length : Int), .int .i64 (z.xs.length : Int), .int .i64 (z.ps.length : Int)]) rfl).drew.cell p).trans hu
  have B2 := (BLb.alloc H8.out.z (.cells #[.int .i64 z.hands, .int .i64 (z.works.length : Int), .int .i64 (z.xs.length : Int), .int .i64 (z.ps.length : Int)] 83)).drew
  have D2 := ((Below.refl W8.heap.size W8).alloc (Nat.le_refl _) (.cells #[.int .i64 z.hands, .int .i64 (z.works.length : Int), .int .i64 (z.xs.length : Int), .int .i64 (z.ps.length : Int)] 83)).drew
  generalize (W8.alloc (.cells #[.int .i64 z.hands, .int .i64 (z.works.length : Int), .int .i64 (z.xs.length : Int), .int .i64 (z.ps.length : Int)] 83)).drew = W2 at *
  refine hKK.out _ _ ⟨(h2.c).cell 2, (h2.c).cell 5, (h2.c).cell 7, (h2.c).cell 8, fun _ => h2.c.cell 4⟩ ?_
  clear hKK KK
  try simp only [Act.put, List.setIfInBounds_toArray, List.set_cons_zero, List.set_cons_succ]
  refine wpAnyB_one (i := 26) false rfl (by kernel_rfl) (by kernel_rfl) ?_
  intro KK hKK
  refine step_appN rfl (.tmp 41) (.tmp 62) 78 rfl B 83 (.agg #[.int .i64 0, .int .i64 0, .int .i64 0, .int .i64 0]) 4 32 Try.underlying78 infoMark rfl (by omega) (by omega) (.slice MA z.marks.length mc) z.marks.length (qsC z.marks) rfl (h2.o 1 _ rfl) ⟨W8.heap.size, 0, none⟩ 1 1 [.int .i64 z.hands, .int .i64 (z.works.length : Int), .int .i64 (z.xs.length : Int), .int .i64 (z.ps.length : Int)] rfl rfl (fun j u hu => by rw [Addr.add_lit, Nat.zero_add]; exact hn2 j u hu) (by simp [Value.oneCell']) (by omega) h2.z ?_
  intro v' w4 hown4 hgrow4 hnil4 hor4
  obtain ⟨A4, c4, rfl⟩ := own_form hown4
  have h4c : Has w4 g 81 _ := h2.c.same (hgrow4.block _ h2.c.lt (fun e => h2.ne (i := 1) rfl e.symm))
  have K4 := K2.same (hgrow4.block _ K2.lt (fun e => K2.ne_own (h2.o 1 _ rfl) (show 35 ≠ 83 by decide) e.symm))
  have B4 := B2.grown hgrow4 h2.z (fun k hk => ((h2.o 1 _ rfl).lt k hk).1)
  refine hKK.out _ _ ⟨(h4c).cell 2, (h4c).cell 5, (h4c).cell 7, (h4c).cell 8, fun _ => h4c.cell 4⟩ ?_
  clear hKK KK
  try simp only [Act.put, List.setIfInBounds_toArray]
  refine wpAnyB_take (i := 27) (oi := _) (v := ?vvb26) (fun w' => w'.cell? ⟨g, 2, none⟩ = some (.int .i64 z.hands) ∧ w'.cell? ⟨g, 5, none⟩ = some (.slice VA z.works.length vc) ∧ w'.cell? ⟨g, 7, none⟩ = some (.slice XA z.xs.length xc) ∧ w'.cell? ⟨g, 8, none⟩ = some (.slice PA z.ps.length pc)) rfl (by kernel_rfl) (by kernel_rfl) (by kernel_rfl) (by kernel_rfl) (by rfl) (fun _ h => ⟨h.1, h.2.1, h.2.2.1, h.2.2.2.1⟩) (.inl fun _ h => ⟨h.1, h.2.1, h.2.2.1, h.2.2.2.1⟩) (fun _ _ _ h => h) (.inl ⟨by rfl, ?hyb26⟩) ⟨(h4c).cell 2, (h4c).cell 5, (h4c).cell 7, (h4c).cell 8, fun _ => h4c.cell 4⟩ ?_
  case hyb26 =>
    intro w' hSw
    try dsimp only at hSw
    go_simp
    all_goals with_reducible rfl
  try simp only [Act.put]
  refine wpAnyB_take (i := 28) (oi := _) (v := ?vvb27) (fun w' => w'.cell? ⟨g, 2, none⟩ = some (.int .i64 z.hands) ∧ w'.cell? ⟨g, 5, none⟩ = some (.slice VA z.works.length vc) ∧ w'.cell? ⟨g, 7, none⟩ = some (.slice XA z.xs.length xc) ∧ w'.cell? ⟨g, 8, none⟩ = some (.slice PA z.ps.length pc)) rfl (by kernel_rfl) (by kernel_rfl) (by kernel_rfl) (by kernel_rfl) (by rfl) (fun _ h => ⟨h.1, h.2.1, h.2.2.1, h.2.2.2.1⟩) (.inl fun _ h => ⟨h.1, h.2.1, h.2.2.1, h.2.2.2.1⟩) (fun _ _ _ h => h) (.inl ⟨by rfl, ?hyb27⟩) ⟨(h4c).cell 2, (h4c).cell 5, (h4c).cell 7, (h4c).cell 8, fun _ => h4c.cell 4⟩ ?_
  case hyb27 =>
    intro w' hSw
    try dsimp only at hSw
    go_simp
    all_goals with_reducible rfl
  try simp only [Act.put]
  refine wpAnyB_one (i := 29) true rfl (by kernel_rfl) (by kernel_rfl) ?_
  intro KK hKK
  have f4 := h4c.free 4
  have q4 := h4c.lt
  have s4 : w4.cell? ⟨g, 4, none⟩ = some (.slice MA z.marks.length mc) := h4c.cell 4
  go_simp
  refine hKK.out _ _ ⟨(h4c.set 4 (.slice A4 (z.marks.length + 1) c4)).cell 2, (h4c.set 4 (.slice A4 (z.marks.length + 1) c4)).cell 5, (h4c.set 4 (.slice A4 (z.marks.length + 1) c4)).cell 7, (h4c.set 4 (.slice A4 (z.marks.length + 1) c4)).cell 8, fun hh => by cases hh⟩ ?_
  clear hKK KK
  try simp only [Act.put, List.setIfInBounds_toArray, List.set_cons_zero, List.set_cons_succ]
  refine wpAnyB_done (by kernel_rfl) (NoPanic.normal ?_) _
  have h5 := RowsH.grow h2 (i := 1) rfl hgrow4 hown4 4 rfl
  have K5 := K4.far (fun e => NBX e) 4 (.slice A4 (z.marks.length + 1) c4)
  have B5 := B4.setCell (p := ⟨g, 4, none⟩) H8.out.b (.slice A4 (z.marks.length + 1) c4)
  have G5 : Grown g W8 [S8, (.slice MA z.marks.length mc), (.slice VA z.works.length vc), (.slice LA z.l.length lc), (.slice XA z.xs.length xc), (.slice PA z.ps.length pc)] (w4.setCell ⟨g, 4, none⟩ (.slice A4 (z.marks.length + 1) c4)) [S8, (.slice A4 (z.marks.length + 1) c4), (.slice VA z.works.length vc), (.slice LA z.l.length lc), (.slice XA z.xs.length xc), (.slice PA z.ps.length pc)] := (Grown.below D2).trans (Grown.grow (i := 1) rfl hgrow4 hor4 4)
  have H9 : Hid (PilH (w4.setCell ⟨g, 4, none⟩ (.slice A4 (z.marks.length + 1) c4)) B g p s (z.note ⟨kd, at_, wd⟩) S8 (.slice A4 (z.marks.length + 1) c4) (.slice VA z.works.length vc) (.slice LA z.l.length lc) (.slice XA z.xs.length xc) (.slice PA z.ps.length pc)) := by
    show RowsH _ _ _ _ _ _
    rw [rows_note]
    exact h5
  have K9 := Lib.hid K5
  have BLc := B5
  have GG9 : Hid (Grown g W [.slice SA z.steps.length sc, .slice MA z.marks.length mc, .slice VA z.works.length vc, .slice LA z.l.length lc, .slice XA z.xs.length xc, .slice PA z.ps.length pc] (w4.setCell ⟨g, 4, none⟩ (.slice A4 (z.marks.length + 1) c4)) [S8, .slice A4 (z.marks.length + 1) c4, .slice VA z.works.length vc, .slice LA z.l.length lc, .slice XA z.xs.length xc, .slice PA z.ps.length pc]) := GG8.out.trans G5
  generalize hW9 : (w4.setCell ⟨g, 4, none⟩ (.slice A4 (z.marks.length + 1) c4)) = W9 at *
  clear h5 K5 B5 G5 GG8 D2 hW9 H8 K8 BLb h2 K2 B2 B4 h4c K4 hn2 hown4 hgrow4 hnil4 hor4 f4 q4 s4 hSSb
  obtain ⟨M9, hM9⟩ : ∃ M9 : Value, M9 = (.slice A4 (z.marks.length + 1) c4) := ⟨_, rfl⟩
  rw [← hM9] at H9 GG9
  clear hM9
  have c1 : W9.cell? ⟨bx, 1, none⟩ = some (.int .i64 at_) := K9.out.cell 1
  have c0 : W9.cell? ⟨bx, 0, none⟩ = some (.int .i64 kd) := K9.out.cell 0
  have f2 := H9.out.c.free 2
  have g2 : W9.cell? ⟨g, 2, none⟩ = some (.int .i64 z.hands) := RowsH.cell H9.out 2
  have qb := K9.out.lt
  have qg := H9.out.c.lt
  have i1 : IntKind.i64.wrap (2 * at_) = 2 * at_ := IntWalk.i64_in _ (by omega)
  have hk := HK.out
  subst hk
  go_wp2
  go_ret
  refine ⟨rfl, ⟨S8, M9, .slice VA z.works.length vc, .slice LA z.l.length lc, .slice XA z.xs.length xc, .slice PA z.ps.length pc, ?_, GG9.out.trans (Grown.cells (.inl rfl) 2 (.int .i64 at_))⟩, BLc.setCell (p := ⟨g, 2, none⟩) H9.out.b _⟩
  have e : z.step ⟨1, at_, wd⟩ = { z.note ⟨1, at_, wd⟩ with hands := at_ } := by unfold Pil.step; rw [if_pos rfl]
  rw [e]
  exact RowsH.head H9.out 2 (by simp) (.int .i64 at_)
set_option maxRecDepth 100000 in
set_option maxHeartbeats 8000000 in
theorem doSew (B g : Nat) (p s : Int) (z : Pil) (S M V L X P : Value) (kd at_ : Int) (wd : ByteArray) (W : World) (h : PilH W B g p s z S M V L X P) (hwd : wd.size ≤ 9223372036854775807) (hs1 : z.steps.length < 1000) (hs2 : z.marks.length ≤ 1000) (hs3 : z.works.length ≤ 400) (hs5 : z.ps.length ≤ 500000) (hs6 : z.l.length = 2 * p.toNat) (hE : pilE p s z ⟨kd, at_, wd⟩ = 0) (hk : kd = 3) :
    Calls Try.prog 12 #[.pointer (some ⟨g, 0, none⟩), .agg #[.int .i64 kd, .int .i64 at_, .string wd]] W fun e w' => e = .returned (.int .i64 0) ∧ (∃ S' M' V' L' X' P', PilH w' B g p s (z.step ⟨kd, at_, wd⟩) S' M' V' L' X' P' ∧ Grown g W [S, M, V, L, X, P] w' [S', M', V', L', X', P']) ∧ Below B W w' := by
  obtain ⟨hp, hsp, q1, q2, q3, q4, q5, q6⟩ := pilE_zero hE
  have q1 : shapeB kd wd = true := q1
  have q2 : wchk wd = 0 := q2
  have q3 : 0 ≤ at_ := q3
  have q4 : at_ ≤ p - 2 := q4
  clear q5 q6
  have HK := Lib.hid hk
  clear hk
  have bxp : ∃ bx, bx = W.heap.size := ⟨_, rfl⟩
  obtain ⟨bx, hbx⟩ := bxp
  obtain ⟨SA, sc, rfl⟩ := own_form (show W.ownsRow B 35 3 S z.steps.length (wksCells z.steps) from h.o 0 _ rfl)
  obtain ⟨MA, mc, rfl⟩ := own_form (show W.ownsRow B 83 4 M z.marks.length (qsC z.marks) from h.o 1 _ rfl)
  obtain ⟨VA, vc, rfl⟩ := own_form (show W.ownsRow B 86 3 V z.works.length (wksCells z.works) from h.o 2 _ rfl)
  obtain ⟨LA, lc, rfl⟩ := own_form (show W.ownsRow B 3 1 L z.l.length (z.l.map vInt) from h.o 3 _ rfl)
  obtain ⟨XA, xc, rfl⟩ := own_form (show W.ownsRow B 47 4 X z.xs.length (qsC z.xs) from h.o 4 _ rfl)
  obtain ⟨PA, pc, rfl⟩ := own_form (show W.ownsRow B 91 6 P z.ps.length (pnsC z.ps) from h.o 5 _ rfl)
  have HE := Lib.hid hE
  have HBS : Hid (some bx ≠ (Value.slice SA z.steps.length sc).ownBlock) := fun e => by
    have h0 : W.ownsRow B 35 3 (.slice SA z.steps.length sc) z.steps.length (wksCells z.steps) := h.o 0 _ rfl
    have := (h0.lt bx e.symm).2
    omega
  have NBX : bx ≠ g := fun e => by have := h.c.lt; omega
  have a0 : W.cell? ⟨g, 0, none⟩ = some (.int .i64 p) := RowsH.cell h 0
  have a3 : W.cell? ⟨g, 3, none⟩ = some (.slice SA z.steps.length sc) := RowsH.cell h 3
  have hgW := h.c.lt
  have s3 : ((z.steps.length : Int) == 1000) = false := by simp; omega
  have h1 := RowsH.below h ((Below.refl W.heap.size W).alloc (Nat.le_refl _) (.cells #[.int .i64 kd, .int .i64 at_, .string wd] 35))
  have CM := Lib.hid (madeC g p (W.alloc (.cells #[.int .i64 kd, .int .i64 at_, .string wd] 35)) (by omega) (RowsH.cell h1 0))
  have CC := Lib.hid (checkC B g p s z _ _ _ _ _ _ kd at_ wd (W.alloc (.cells #[.int .i64 kd, .int .i64 at_, .string wd] 35)) h1 hwd)
  rw [hE] at CC
  have K1 : Has (W.alloc (.cells #[.int .i64 kd, .int .i64 at_, .string wd] 35)) bx 35 [.int .i64 kd, .int .i64 at_, .string wd] := by rw [hbx]; exact Has.new rfl
  have H1 := Lib.hid h1
  have B1 : Below B W (W.alloc (.cells #[.int .i64 kd, .int .i64 at_, .string wd] 35)) := (Below.refl _ _).alloc h.z _
  clear hE h1
  go_enter Try.func12, Try.ntmps12
  go_wp2_with fail
  refine CM.out.mono ?_
  rintro e w1 ⟨rfl, rfl⟩
  go_wp2_with fail
  refine CC.out.mono ?_
  rintro e w2 ⟨rfl, hb2⟩
  have h2 : RowsH w2 B g 81 _ _ := RowsH.below H1.out hb2
  have K2 := K1.below hb2 K1.lt
  have BLa := B1.trans (hb2.mono H1.out.z)
  have GG2 := Lib.hid (Grown.below (g := g) (vs := [.slice SA z.steps.length sc, .slice MA z.marks.length mc, .slice VA z.works.length vc, .slice LA z.l.length lc, .slice XA z.xs.length xc, .slice PA z.ps.length pc]) (bvia (show Below W.heap.size W (W.alloc (.cells #[.int .i64 kd, .int .i64 at_, .string wd] 35)) by go_grown) hb2))
  rw [← hbx]
  clear H1 K1 B1 hb2 CM CC a0 a3 h hgW hbx
  have H2 := Lib.hid h2
  have hK2 := Lib.hid K2
  clear h2 K2
  go_wp2
  refine wp_region_noPanic ?_
  refine wp_region_B (fun b w' => w'.cell? ⟨bx, 0, none⟩ = some (.int .i64 kd) ∧ w'.cell? ⟨bx, 1, none⟩ = some (.int .i64 at_) ∧ w'.cell? ⟨bx, 2, none⟩ = some (.string wd) ∧ (b = false → w'.cell? ⟨g, 3, none⟩ = some (.slice SA z.steps.length sc))) 10 (by kernel_rfl) ?_
  have hSSa : (fun b w' => w'.cell? ⟨bx, 0, none⟩ = some (.int .i64 kd) ∧ w'.cell? ⟨bx, 1, none⟩ = some (.int .i64 at_) ∧ w'.cell? ⟨bx, 2, none⟩ = some (.string wd) ∧ (b = false → w'.cell? ⟨g, 3, none⟩ = some (.slice SA z.steps.length sc))) false (w2.drew) := ⟨(hK2.out.drew).cell 0, (hK2.out.drew).cell 1, (hK2.out.drew).cell 2, fun _ => H2.out.c.drew.cell 3⟩
  refine wpAnyB_take (i := 0) (oi := _) (v := ?vva1) (fun w' => w'.cell? ⟨bx, 0, none⟩ = some (.int .i64 kd) ∧ w'.cell? ⟨bx, 1, none⟩ = some (.int .i64 at_) ∧ w'.cell? ⟨bx, 2, none⟩ = some (.string wd)) rfl (by kernel_rfl) (by kernel_rfl) (by kernel_rfl) (by kernel_rfl) (by rfl) (fun _ h => ⟨h.1, h.2.1, h.2.2.1⟩) (.inl fun _ h => ⟨h.1, h.2.1, h.2.2.1⟩) (fun _ _ _ h => h) (.inl ⟨by rfl, ?hya1⟩) hSSa ?_
  case hya1 =>
    intro w' hSw
    try dsimp only at hSw
    go_simp
    all_goals with_reducible rfl
  try simp only [Act.put, List.setIfInBounds_toArray]
  refine wpAnyB_take (i := 1) (oi := _) (v := ?vva2) (fun w' => w'.cell? ⟨bx, 0, none⟩ = some (.int .i64 kd) ∧ w'.cell? ⟨bx, 1, none⟩ = some (.int .i64 at_) ∧ w'.cell? ⟨bx, 2, none⟩ = some (.string wd)) rfl (by kernel_rfl) (by kernel_rfl) (by kernel_rfl) (by kernel_rfl) (by rfl) (fun _ h => ⟨h.1, h.2.1, h.2.2.1⟩) (.inl fun _ h => ⟨h.1, h.2.1, h.2.2.1⟩) (fun _ _ _ h => h) (.inl ⟨by rfl, ?hya2⟩) hSSa ?_
  case hya2 =>
    intro w' hSw
    try dsimp only at hSw
    go_simp
    all_goals with_reducible rfl
  try simp only [Act.put]
  refine wpAnyB_take (i := 2) (oi := _) (v := ?vva3) (fun w' => w'.cell? ⟨bx, 0, none⟩ = some (.int .i64 kd) ∧ w'.cell? ⟨bx, 1, none⟩ = some (.int .i64 at_) ∧ w'.cell? ⟨bx, 2, none⟩ = some (.string wd)) rfl (by kernel_rfl) (by kernel_rfl) (by kernel_rfl) (by kernel_rfl) (by rfl) (fun _ h => ⟨h.1, h.2.1, h.2.2.1⟩) (.inl fun _ h => ⟨h.1, h.2.1, h.2.2.1⟩) (fun _ _ _ h => h) (.inl ⟨by rfl, ?hya3⟩) hSSa ?_
  case hya3 =>
    intro w' hSw
    try dsimp only at hSw
    go_simp
    all_goals with_reducible rfl
  try simp only [Act.put]
  refine wpAnyB_take (i := 3) (oi := _) (v := ?vva4) (fun w' => w'.cell? ⟨bx, 0, none⟩ = some (.int .i64 kd) ∧ w'.cell? ⟨bx, 1, none⟩ = some (.int .i64 at_) ∧ w'.cell? ⟨bx, 2, none⟩ = some (.string wd)) rfl (by kernel_rfl) (by kernel_rfl) (by kernel_rfl) (by kernel_rfl) (by rfl) (fun _ h => ⟨h.1, h.2.1, h.2.2.1⟩) (.inl fun _ h => ⟨h.1, h.2.1, h.2.2.1⟩) (fun _ _ _ h => h) (.inl ⟨by rfl, ?hya4⟩) hSSa ?_
  case hya4 =>
    intro w' hSw
    try dsimp only at hSw
    go_simp
    all_goals with_reducible rfl
  try simp only [Act.put]
  refine wpAnyB_take (i := 4) (oi := _) (v := ?vva5) (fun w' => w'.cell? ⟨bx, 0, none⟩ = some (.int .i64 kd) ∧ w'.cell? ⟨bx, 1, none⟩ = some (.int .i64 at_) ∧ w'.cell? ⟨bx, 2, none⟩ = some (.string wd) ∧ w'.cell? ⟨g, 3, none⟩ = some (.slice SA z.steps.length sc)) rfl (by kernel_rfl) (by kernel_rfl) (by kernel_rfl) (by kernel_rfl) (by rfl) (fun _ h => ⟨h.1, h.2.1, h.2.2.1, h.2.2.2 rfl⟩) (.inr (by kernel_rfl)) (fun _ _ _ h => h) (.inl ⟨by rfl, ?hya5⟩) hSSa ?_
  case hya5 =>
    intro w' hSw
    try dsimp only at hSw
    go_simp
    all_goals with_reducible rfl
  try simp only [Act.put]
  refine wpAnyB_take (i := 5) (oi := _) (v := ?vva6) (fun w' => w'.cell? ⟨bx, 0, none⟩ = some (.int .i64 kd) ∧ w'.cell? ⟨bx, 1, none⟩ = some (.int .i64 at_) ∧ w'.cell? ⟨bx, 2, none⟩ = some (.string wd)) rfl (by kernel_rfl) (by kernel_rfl) (by kernel_rfl) (by kernel_rfl) (by rfl) (fun _ h => ⟨h.1, h.2.1, h.2.2.1⟩) (.inl fun _ h => ⟨h.1, h.2.1, h.2.2.1⟩) (fun _ _ _ h => h) (.inl ⟨by rfl, ?hya6⟩) hSSa ?_
  case hya6 =>
    intro w' hSw
    try dsimp only at hSw
    go_simp
    all_goals with_reducible rfl
  try simp only [Act.put]
  refine wpAnyB_one (i := 6) false rfl (by kernel_rfl) (by kernel_rfl) ?_
  intro KK hKK
  go_simp
  have h2 : RowsH (w2.alloc (.cells #[.int .i64 kd, .int .i64 at_, .string wd] 35)).drew B g 81 _ _ := (RowsH.below H2.out ((Below.refl _ w2).alloc (Nat.le_refl _) (.cells #[.int .i64 kd, .int .i64 at_, .string wd] 35))).drew
  have K2 := (hK2.out.alloc (.cells #[.int .i64 kd, .int .i64 at_, .string wd] 35)).drew
  have hn2 : ∀ p u, ([.int .i64 kd, .int .i64 at_, .string wd] : List Value)[p]? = some u → (w2.alloc (.cells #[.int .i64 kd, .int .i64 at_, .string wd] 35)).drew.cell? ⟨w2.heap.size, p, none⟩ = some u := fun p u hu => ((Has.new (w := w2) (t := 35) (cs := [.int .i64 kd, .int .i64 at_, .string wd]) rfl).drew.cell p).trans hu
  have B2 := (BLa.alloc H2.out.z (.cells #[.int .i64 kd, .int .i64 at_, .string wd] 35)).drew
  have D2 := ((Below.refl w2.heap.size w2).alloc (Nat.le_refl _) (.cells #[.int .i64 kd, .int .i64 at_, .string wd] 35)).drew
  generalize (w2.alloc (.cells #[.int .i64 kd, .int .i64 at_, .string wd] 35)).drew = W2 at *
  refine hKK.out _ _ ⟨(K2).cell 0, (K2).cell 1, (K2).cell 2, fun _ => h2.c.cell 3⟩ ?_
  clear hKK KK
  try simp only [Act.put, List.setIfInBounds_toArray, List.set_cons_zero, List.set_cons_succ]
  refine wpAnyB_one (i := 7) false rfl (by kernel_rfl) (by kernel_rfl) ?_
  intro KK hKK
  refine step_appN rfl (.tmp 31) (.tmp 33) 25 rfl B 35 (.agg #[.int .i64 0, .int .i64 0, .string ⟨#[]⟩]) 3 32 Try.underlying25 infoCs rfl (by omega) (by omega) (.slice SA z.steps.length sc) z.steps.length (wksCells z.steps) rfl (h2.o 0 _ rfl) ⟨w2.heap.size, 0, none⟩ 1 1 [.int .i64 kd, .int .i64 at_, .string wd] rfl rfl (fun j u hu => by rw [Addr.add_lit, Nat.zero_add]; exact hn2 j u hu) (by simp [Value.oneCell']) (by omega) h2.z ?_
  intro v' w4 hown4 hgrow4 hnil4 hor4
  obtain ⟨A4, c4, rfl⟩ := own_form hown4
  have h4c : Has w4 g 81 _ := h2.c.same (hgrow4.block _ h2.c.lt (fun e => h2.ne (i := 0) rfl e.symm))
  have K4 := K2.same (hgrow4.block _ K2.lt (HBS.out))
  have B4 := B2.grown hgrow4 h2.z (fun k hk => ((h2.o 0 _ rfl).lt k hk).1)
  refine hKK.out _ _ ⟨(K4).cell 0, (K4).cell 1, (K4).cell 2, fun _ => h4c.cell 3⟩ ?_
  clear hKK KK
  try simp only [Act.put, List.setIfInBounds_toArray]
  refine wpAnyB_take (i := 8) (oi := _) (v := ?vva7) (fun w' => w'.cell? ⟨bx, 0, none⟩ = some (.int .i64 kd) ∧ w'.cell? ⟨bx, 1, none⟩ = some (.int .i64 at_) ∧ w'.cell? ⟨bx, 2, none⟩ = some (.string wd)) rfl (by kernel_rfl) (by kernel_rfl) (by kernel_rfl) (by kernel_rfl) (by rfl) (fun _ h => ⟨h.1, h.2.1, h.2.2.1⟩) (.inl fun _ h => ⟨h.1, h.2.1, h.2.2.1⟩) (fun _ _ _ h => h) (.inl ⟨by rfl, ?hya7⟩) ⟨(K4).cell 0, (K4).cell 1, (K4).cell 2, fun _ => h4c.cell 3⟩ ?_
  case hya7 =>
    intro w' hSw
    try dsimp only at hSw
    go_simp
    all_goals with_reducible rfl
  try simp only [Act.put]
  refine wpAnyB_take (i := 9) (oi := _) (v := ?vva8) (fun w' => w'.cell? ⟨bx, 0, none⟩ = some (.int .i64 kd) ∧ w'.cell? ⟨bx, 1, none⟩ = some (.int .i64 at_) ∧ w'.cell? ⟨bx, 2, none⟩ = some (.string wd)) rfl (by kernel_rfl) (by kernel_rfl) (by kernel_rfl) (by kernel_rfl) (by rfl) (fun _ h => ⟨h.1, h.2.1, h.2.2.1⟩) (.inl fun _ h => ⟨h.1, h.2.1, h.2.2.1⟩) (fun _ _ _ h => h) (.inl ⟨by rfl, ?hya8⟩) ⟨(K4).cell 0, (K4).cell 1, (K4).cell 2, fun _ => h4c.cell 3⟩ ?_
  case hya8 =>
    intro w' hSw
    try dsimp only at hSw
    go_simp
    all_goals with_reducible rfl
  try simp only [Act.put]
  refine wpAnyB_one (i := 10) true rfl (by kernel_rfl) (by kernel_rfl) ?_
  intro KK hKK
  have f4 := h4c.free 3
  have q4 := h4c.lt
  have s4 : w4.cell? ⟨g, 3, none⟩ = some (.slice SA z.steps.length sc) := h4c.cell 3
  go_simp
  refine hKK.out _ _ ⟨(K4.far (fun e => NBX e) 3 (.slice A4 (z.steps.length + 1) c4)).cell 0, (K4.far (fun e => NBX e) 3 (.slice A4 (z.steps.length + 1) c4)).cell 1, (K4.far (fun e => NBX e) 3 (.slice A4 (z.steps.length + 1) c4)).cell 2, fun hh => by cases hh⟩ ?_
  clear hKK KK
  try simp only [Act.put, List.setIfInBounds_toArray, List.set_cons_zero, List.set_cons_succ]
  refine wpAnyB_done (by kernel_rfl) (NoPanic.normal ?_) _
  have h5 := RowsH.grow h2 (i := 0) rfl hgrow4 hown4 3 rfl
  have K5 := K4.far (fun e => NBX e) 3 (.slice A4 (z.steps.length + 1) c4)
  have B5 := B4.setCell (p := ⟨g, 3, none⟩) H2.out.b (.slice A4 (z.steps.length + 1) c4)
  have G5 : Grown g w2 [(.slice SA z.steps.length sc), (.slice MA z.marks.length mc), (.slice VA z.works.length vc), (.slice LA z.l.length lc), (.slice XA z.xs.length xc), (.slice PA z.ps.length pc)] (w4.setCell ⟨g, 3, none⟩ (.slice A4 (z.steps.length + 1) c4)) [(.slice A4 (z.steps.length + 1) c4), (.slice MA z.marks.length mc), (.slice VA z.works.length vc), (.slice LA z.l.length lc), (.slice XA z.xs.length xc), (.slice PA z.ps.length pc)] := (Grown.below D2).trans (Grown.grow (i := 0) rfl hgrow4 hor4 3)
  have H8 : Hid (PilH (w4.setCell ⟨g, 3, none⟩ (.slice A4 (z.steps.length + 1) c4)) B g p s { z with steps := z.steps ++ [⟨kd, at_, wd⟩] } (.slice A4 (z.steps.length + 1) c4) (.slice MA z.marks.length mc) (.slice VA z.works.length vc) (.slice LA z.l.length lc) (.slice XA z.xs.length xc) (.slice PA z.ps.length pc)) := by
    show RowsH _ _ _ _ _ _
    rw [rows_steps]
    exact h5
  have K8 := Lib.hid K5
  have BLb := B5
  have GG8 : Hid (Grown g W [.slice SA z.steps.length sc, .slice MA z.marks.length mc, .slice VA z.works.length vc, .slice LA z.l.length lc, .slice XA z.xs.length xc, .slice PA z.ps.length pc] (w4.setCell ⟨g, 3, none⟩ (.slice A4 (z.steps.length + 1) c4)) [.slice A4 (z.steps.length + 1) c4, .slice MA z.marks.length mc, .slice VA z.works.length vc, .slice LA z.l.length lc, .slice XA z.xs.length xc, .slice PA z.ps.length pc]) := GG2.out.trans G5
  generalize hW8 : (w4.setCell ⟨g, 3, none⟩ (.slice A4 (z.steps.length + 1) c4)) = W8 at *
  clear h5 K5 B5 G5 GG2 D2 hW8 H2 hK2 BLa h2 K2 B2 B4 h4c K4 hn2 hown4 hgrow4 hnil4 hor4 f4 q4 s4 hSSa
  obtain ⟨S8, hS8⟩ : ∃ S8 : Value, S8 = (.slice A4 (z.steps.length + 1) c4) := ⟨_, rfl⟩
  rw [← hS8] at H8 GG8
  clear hS8
  go_wp2
  refine wp_region_noPanic ?_
  refine wp_region_B (fun b w' => w'.cell? ⟨g, 2, none⟩ = some (.int .i64 z.hands) ∧ w'.cell? ⟨g, 5, none⟩ = some (.slice VA z.works.length vc) ∧ w'.cell? ⟨g, 7, none⟩ = some (.slice XA z.xs.length xc) ∧ w'.cell? ⟨g, 8, none⟩ = some (.slice PA z.ps.length pc) ∧ (b = false → w'.cell? ⟨g, 4, none⟩ = some (.slice MA z.marks.length mc))) 29 (by kernel_rfl) ?_
  have hSSb : (fun b w' => w'.cell? ⟨g, 2, none⟩ = some (.int .i64 z.hands) ∧ w'.cell? ⟨g, 5, none⟩ = some (.slice VA z.works.length vc) ∧ w'.cell? ⟨g, 7, none⟩ = some (.slice XA z.xs.length xc) ∧ w'.cell? ⟨g, 8, none⟩ = some (.slice PA z.ps.length pc) ∧ (b = false → w'.cell? ⟨g, 4, none⟩ = some (.slice MA z.marks.length mc))) false (W8.drew) := ⟨(H8.out.c.drew).cell 2, (H8.out.c.drew).cell 5, (H8.out.c.drew).cell 7, (H8.out.c.drew).cell 8, fun _ => H8.out.c.drew.cell 4⟩
  refine wpAnyB_take (i := 0) (oi := _) (v := ?vvb1) (fun w' => w'.cell? ⟨g, 2, none⟩ = some (.int .i64 z.hands) ∧ w'.cell? ⟨g, 5, none⟩ = some (.slice VA z.works.length vc) ∧ w'.cell? ⟨g, 7, none⟩ = some (.slice XA z.xs.length xc) ∧ w'.cell? ⟨g, 8, none⟩ = some (.slice PA z.ps.length pc)) rfl (by kernel_rfl) (by kernel_rfl) (by kernel_rfl) (by kernel_rfl) (by rfl) (fun _ h => ⟨h.1, h.2.1, h.2.2.1, h.2.2.2.1⟩) (.inl fun _ h => ⟨h.1, h.2.1, h.2.2.1, h.2.2.2.1⟩) (fun _ _ _ h => h) (.inl ⟨by rfl, ?hyb1⟩) hSSb ?_
  case hyb1 =>
    intro w' hSw
    try dsimp only at hSw
    go_simp
    all_goals with_reducible rfl
  try simp only [Act.put, List.setIfInBounds_toArray]
  refine wpAnyB_take (i := 1) (oi := _) (v := ?vvb2) (fun w' => w'.cell? ⟨g, 2, none⟩ = some (.int .i64 z.hands) ∧ w'.cell? ⟨g, 5, none⟩ = some (.slice VA z.works.length vc) ∧ w'.cell? ⟨g, 7, none⟩ = some (.slice XA z.xs.length xc) ∧ w'.cell? ⟨g, 8, none⟩ = some (.slice PA z.ps.length pc)) rfl (by kernel_rfl) (by kernel_rfl) (by kernel_rfl) (by kernel_rfl) (by rfl) (fun _ h => ⟨h.1, h.2.1, h.2.2.1, h.2.2.2.1⟩) (.inl fun _ h => ⟨h.1, h.2.1, h.2.2.1, h.2.2.2.1⟩) (fun _ _ _ h => h) (.inl ⟨by rfl, ?hyb2⟩) hSSb ?_
  case hyb2 =>
    intro w' hSw
    try dsimp only at hSw
    go_simp
    all_goals with_reducible rfl
  try simp only [Act.put]
  refine wpAnyB_take (i := 2) (oi := _) (v := ?vvb3) (fun w' => w'.cell? ⟨g, 2, none⟩ = some (.int .i64 z.hands) ∧ w'.cell? ⟨g, 5, none⟩ = some (.slice VA z.works.length vc) ∧ w'.cell? ⟨g, 7, none⟩ = some (.slice XA z.xs.length xc) ∧ w'.cell? ⟨g, 8, none⟩ = some (.slice PA z.ps.length pc)) rfl (by kernel_rfl) (by kernel_rfl) (by kernel_rfl) (by kernel_rfl) (by rfl) (fun _ h => ⟨h.1, h.2.1, h.2.2.1, h.2.2.2.1⟩) (.inl fun _ h => ⟨h.1, h.2.1, h.2.2.1, h.2.2.2.1⟩) (fun _ _ _ h => h) (.inl ⟨by rfl, ?hyb3⟩) hSSb ?_
  case hyb3 =>
    intro w' hSw
    try dsimp only at hSw
    go_simp
    all_goals with_reducible rfl
  try simp only [Act.put]
  refine wpAnyB_take (i := 3) (oi := _) (v := ?vvb4) (fun w' => w'.cell? ⟨g, 2, none⟩ = some (.int .i64 z.hands) ∧ w'.cell? ⟨g, 5, none⟩ = some (.slice VA z.works.length vc) ∧ w'.cell? ⟨g, 7, none⟩ = some (.slice XA z.xs.length xc) ∧ w'.cell? ⟨g, 8, none⟩ = some (.slice PA z.ps.length pc)) rfl (by kernel_rfl) (by kernel_rfl) (by kernel_rfl) (by kernel_rfl) (by rfl) (fun _ h => ⟨h.1, h.2.1, h.2.2.1, h.2.2.2.1⟩) (.inl fun _ h => ⟨h.1, h.2.1, h.2.2.1, h.2.2.2.1⟩) (fun _ _ _ h => h) (.inl ⟨by rfl, ?hyb4⟩) hSSb ?_
  case hyb4 =>
    intro w' hSw
    try dsimp only at hSw
    go_simp
    all_goals with_reducible rfl
  try simp only [Act.put]
  refine wpAnyB_take (i := 4) (oi := _) (v := ?vvb5) (fun w' => w'.cell? ⟨g, 2, none⟩ = some (.int .i64 z.hands) ∧ w'.cell? ⟨g, 5, none⟩ = some (.slice VA z.works.length vc) ∧ w'.cell? ⟨g, 7, none⟩ = some (.slice XA z.xs.length xc) ∧ w'.cell? ⟨g, 8, none⟩ = some (.slice PA z.ps.length pc) ∧ w'.cell? ⟨g, 4, none⟩ = some (.slice MA z.marks.length mc)) rfl (by kernel_rfl) (by kernel_rfl) (by kernel_rfl) (by kernel_rfl) (by rfl) (fun _ h => ⟨h.1, h.2.1, h.2.2.1, h.2.2.2.1, h.2.2.2.2 rfl⟩) (.inr (by kernel_rfl)) (fun _ _ _ h => h) (.inl ⟨by rfl, ?hyb5⟩) hSSb ?_
  case hyb5 =>
    intro w' hSw
    try dsimp only at hSw
    go_simp
    all_goals with_reducible rfl
  try simp only [Act.put]
  refine wpAnyB_take (i := 5) (oi := _) (v := ?vvb6) (fun w' => w'.cell? ⟨g, 2, none⟩ = some (.int .i64 z.hands) ∧ w'.cell? ⟨g, 5, none⟩ = some (.slice VA z.works.length vc) ∧ w'.cell? ⟨g, 7, none⟩ = some (.slice XA z.xs.length xc) ∧ w'.cell? ⟨g, 8, none⟩ = some (.slice PA z.ps.length pc)) rfl (by kernel_rfl) (by kernel_rfl) (by kernel_rfl) (by kernel_rfl) (by rfl) (fun _ h => ⟨h.1, h.2.1, h.2.2.1, h.2.2.2.1⟩) (.inl fun _ h => ⟨h.1, h.2.1, h.2.2.1, h.2.2.2.1⟩) (fun _ _ _ h => h) (.inl ⟨by rfl, ?hyb6⟩) hSSb ?_
  case hyb6 =>
    intro w' hSw
    try dsimp only at hSw
    go_simp
    all_goals with_reducible rfl
  try simp only [Act.put]
  refine wpAnyB_take (i := 6) (oi := _) (v := ?vvb7) (fun w' => w'.cell? ⟨g, 2, none⟩ = some (.int .i64 z.hands) ∧ w'.cell? ⟨g, 5, none⟩ = some (.slice VA z.works.length vc) ∧ w'.cell? ⟨g, 7, none⟩ = some (.slice XA z.xs.length xc) ∧ w'.cell? ⟨g, 8, none⟩ = some (.slice PA z.ps.length pc)) rfl (by kernel_rfl) (by kernel_rfl) (by kernel_rfl) (by kernel_rfl) (by rfl) (fun _ h => ⟨h.1, h.2.1, h.2.2.1, h.2.2.2.1⟩) (.inl fun _ h => ⟨h.1, h.2.1, h.2.2.1, h.2.2.2.1⟩) (fun _ _ _ h => h) (.inl ⟨by rfl, ?hyb7⟩) hSSb ?_
  case hyb7 =>
    intro w' hSw
    try dsimp only at hSw
    go_simp
    all_goals with_reducible rfl
  try simp only [Act.put]
  refine wpAnyB_take (i := 7) (oi := _) (v := ?vvb8) (fun w' => w'.cell? ⟨g, 2, none⟩ = some (.int .i64 z.hands) ∧ w'.cell? ⟨g, 5, none⟩ = some (.slice VA z.works.length vc) ∧ w'.cell? ⟨g, 7, none⟩ = some (.slice XA z.xs.length xc) ∧ w'.cell? ⟨g, 8, none⟩ = some (.slice PA z.ps.length pc)) rfl (by kernel_rfl) (by kernel_rfl) (by kernel_rfl) (by kernel_rfl) (by rfl) (fun _ h => ⟨h.1, h.2.1, h.2.2.1, h.2.2.2.1⟩) (.inl fun _ h => ⟨h.1, h.2.1, h.2.2.1, h.2.2.2.1⟩) (fun _ _ _ h => h) (.inl ⟨by rfl, ?hyb8⟩) hSSb ?_
  case hyb8 =>
    intro w' hSw
    try dsimp only at hSw
    go_simp
    all_goals with_reducible rfl
  try simp only [Act.put]
  refine wpAnyB_take (i := 8) (oi := _) (v := ?vvb9) (fun w' => w'.cell? ⟨g, 2, none⟩ = some (.int .i64 z.hands) ∧ w'.cell? ⟨g, 5, none⟩ = some (.slice VA z.works.length vc) ∧ w'.cell? ⟨g, 7, none⟩ = some (.slice XA z.xs.length xc) ∧ w'.cell? ⟨g, 8, none⟩ = some (.slice PA z.ps.length pc)) rfl (by kernel_rfl) (by kernel_rfl) (by kernel_rfl) (by kernel_rfl) (by rfl) (fun _ h => ⟨h.1, h.2.1, h.2.2.1, h.2.2.2.1⟩) (.inl fun _ h => ⟨h.1, h.2.1, h.2.2.1, h.2.2.2.1⟩) (fun _ _ _ h => h) (.inl ⟨by rfl, ?hyb9⟩) hSSb ?_
  case hyb9 =>
    intro w' hSw
    try dsimp only at hSw
    go_simp
    all_goals with_reducible rfl
  try simp only [Act.put]
  refine wpAnyB_take (i := 9) (oi := _) (v := ?vvb10) (fun w' => w'.cell? ⟨g, 2, none⟩ = some (.int .i64 z.hands) ∧ w'.cell? ⟨g, 5, none⟩ = some (.slice VA z.works.length vc) ∧ w'.cell? ⟨g, 7, none⟩ = some (.slice XA z.xs.length xc) ∧ w'.cell? ⟨g, 8, none⟩ = some (.slice PA z.ps.length pc)) rfl (by kernel_rfl) (by kernel_rfl) (by kernel_rfl) (by kernel_rfl) (by rfl) (fun _ h => ⟨h.1, h.2.1, h.2.2.1, h.2.2.2.1⟩) (.inl fun _ h => ⟨h.1, h.2.1, h.2.2.1, h.2.2.2.1⟩) (fun _ _ _ h => h) (.inl ⟨by rfl, ?hyb10⟩) hSSb ?_
  case hyb10 =>
    intro w' hSw
    try dsimp only at hSw
    go_simp
    all_goals with_reducible rfl
  try simp only [Act.put]
  refine wpAnyB_take (i := 10) (oi := _) (v := ?vvb11) (fun w' => w'.cell? ⟨g, 2, none⟩ = some (.int .i64 z.hands) ∧ w'.cell? ⟨g, 5, none⟩ = some (.slice VA z.works.length vc) ∧ w'.cell? ⟨g, 7, none⟩ = some (.slice XA z.xs.length xc) ∧ w'.cell? ⟨g, 8, none⟩ = some (.slice PA z.ps.length pc)) rfl (by kernel_rfl) (by kernel_rfl) (by kernel_rfl) (by kernel_rfl) (by rfl) (fun _ h => ⟨h.1, h.2.1, h.2.2.1, h.2.2.2.1⟩) (.inl fun _ h => ⟨h.1, h.2.1, h.2.2.1, h.2.2.2.1⟩) (fun _ _ _ h => h) (.inl ⟨by rfl, ?hyb11⟩) hSSb ?_
  case hyb11 =>
    intro w' hSw
    try dsimp only at hSw
    go_simp
    all_goals with_reducible rfl
  try simp only [Act.put]
  refine wpAnyB_take (i := 11) (oi := _) (v := ?vvb12) (fun w' => w'.cell? ⟨g, 2, none⟩ = some (.int .i64 z.hands) ∧ w'.cell? ⟨g, 5, none⟩ = some (.slice VA z.works.length vc) ∧ w'.cell? ⟨g, 7, none⟩ = some (.slice XA z.xs.length xc) ∧ w'.cell? ⟨g, 8, none⟩ = some (.slice PA z.ps.length pc)) rfl (by kernel_rfl) (by kernel_rfl) (by kernel_rfl) (by kernel_rfl) (by rfl) (fun _ h => ⟨h.1, h.2.1, h.2.2.1, h.2.2.2.1⟩) (.inl fun _ h => ⟨h.1, h.2.1, h.2.2.1, h.2.2.2.1⟩) (fun _ _ _ h => h) (.inl ⟨by rfl, ?hyb12⟩) hSSb ?_
  case hyb12 =>
    intro w' hSw
    try dsimp only at hSw
    go_simp
    all_goals with_reducible rfl
  try simp only [Act.put]
  refine wpAnyB_take (i := 12) (oi := _) (v := ?vvb13) (fun w' => w'.cell? ⟨g, 2, none⟩ = some (.int .i64 z.hands) ∧ w'.cell? ⟨g, 5, none⟩ = some (.slice VA z.works.length vc) ∧ w'.cell? ⟨g, 7, none⟩ = some (.slice XA z.xs.length xc) ∧ w'.cell? ⟨g, 8, none⟩ = some (.slice PA z.ps.length pc)) rfl (by kernel_rfl) (by kernel_rfl) (by kernel_rfl) (by kernel_rfl) (by rfl) (fun _ h => ⟨h.1, h.2.1, h.2.2.1, h.2.2.2.1⟩) (.inl fun _ h => ⟨h.1, h.2.1, h.2.2.1, h.2.2.2.1⟩) (fun _ _ _ h => h) (.inl ⟨by rfl, ?hyb13⟩) hSSb ?_
  case hyb13 =>
    intro w' hSw
    try dsimp only at hSw
    go_simp
    all_goals with_reducible rfl
  try simp only [Act.put]
  refine wpAnyB_take (i := 13) (oi := _) (v := ?vvb14) (fun w' => w'.cell? ⟨g, 2, none⟩ = some (.int .i64 z.hands) ∧ w'.cell? ⟨g, 5, none⟩ = some (.slice VA z.works.length vc) ∧ w'.cell? ⟨g, 7, none⟩ = some (.slice XA z.xs.length xc) ∧ w'.cell? ⟨g, 8, none⟩ = some (.slice PA z.ps.length pc)) rfl (by kernel_rfl) (by kernel_rfl) (by kernel_rfl) (by kernel_rfl) (by rfl) (fun _ h => ⟨h.1, h.2.1, h.2.2.1, h.2.2.2.1⟩) (.inl fun _ h => ⟨h.1, h.2.1, h.2.2.1, h.2.2.2.1⟩) (fun _ _ _ h => h) (.inl ⟨by rfl, ?hyb14⟩) hSSb ?_
  case hyb14 =>
    intro w' hSw
    try dsimp only at hSw
    go_simp
    all_goals with_reducible rfl
  try simp only [Act.put]
  refine wpAnyB_take (i := 14) (oi := _) (v := ?vvb15) (fun w' => w'.cell? ⟨g, 2, none⟩ = some (.int .i64 z.hands) ∧ w'.cell? ⟨g, 5, none⟩ = some (.slice VA z.works.length vc) ∧ w'.cell? ⟨g, 7, none⟩ = some (.slice XA z.xs.length xc) ∧ w'.cell? ⟨g, 8, none⟩ = some (.slice PA z.ps.length pc)) rfl (by kernel_rfl) (by kernel_rfl) (by kernel_rfl) (by kernel_rfl) (by rfl) (fun _ h => ⟨h.1, h.2.1, h.2.2.1, h.2.2.2.1⟩) (.inl fun _ h => ⟨h.1, h.2.1, h.2.2.1, h.2.2.2.1⟩) (fun _ _ _ h => h) (.inl ⟨by rfl, ?hyb15⟩) hSSb ?_
  case hyb15 =>
    intro w' hSw
    try dsimp only at hSw
    go_simp
    all_goals with_reducible rfl
  try simp only [Act.put]
  refine wpAnyB_take (i := 15) (oi := _) (v := ?vvb16) (fun w' => w'.cell? ⟨g, 2, none⟩ = some (.int .i64 z.hands) ∧ w'.cell? ⟨g, 5, none⟩ = some (.slice VA z.works.length vc) ∧ w'.cell? ⟨g, 7, none⟩ = some (.slice XA z.xs.length xc) ∧ w'.cell? ⟨g, 8, none⟩ = some (.slice PA z.ps.length pc)) rfl (by kernel_rfl) (by kernel_rfl) (by kernel_rfl) (by kernel_rfl) (by rfl) (fun _ h => ⟨h.1, h.2.1, h.2.2.1, h.2.2.2.1⟩) (.inl fun _ h => ⟨h.1, h.2.1, h.2.2.1, h.2.2.2.1⟩) (fun _ _ _ h => h) (.inl ⟨by rfl, ?hyb16⟩) hSSb ?_
  case hyb16 =>
    intro w' hSw
    try dsimp only at hSw
    go_simp
    all_goals with_reducible rfl
  try simp only [Act.put]
  refine wpAnyB_take (i := 16) (oi := _) (v := ?vvb17) (fun w' => w'.cell? ⟨g, 2, none⟩ = some (.int .i64 z.hands) ∧ w'.cell? ⟨g, 5, none⟩ = some (.slice VA z.works.length vc) ∧ w'.cell? ⟨g, 7, none⟩ = some (.slice XA z.xs.length xc) ∧ w'.cell? ⟨g, 8, none⟩ = some (.slice PA z.ps.length pc)) rfl (by kernel_rfl) (by kernel_rfl) (by kernel_rfl) (by kernel_rfl) (by rfl) (fun _ h => ⟨h.1, h.2.1, h.2.2.1, h.2.2.2.1⟩) (.inl fun _ h => ⟨h.1, h.2.1, h.2.2.1, h.2.2.2.1⟩) (fun _ _ _ h => h) (.inl ⟨by rfl, ?hyb17⟩) hSSb ?_
  case hyb17 =>
    intro w' hSw
    try dsimp only at hSw
    go_simp
    all_goals with_reducible rfl
  try simp only [Act.put]
  refine wpAnyB_take (i := 17) (oi := _) (v := ?vvb18) (fun w' => w'.cell? ⟨g, 2, none⟩ = some (.int .i64 z.hands) ∧ w'.cell? ⟨g, 5, none⟩ = some (.slice VA z.works.length vc) ∧ w'.cell? ⟨g, 7, none⟩ = some (.slice XA z.xs.length xc) ∧ w'.cell? ⟨g, 8, none⟩ = some (.slice PA z.ps.length pc)) rfl (by kernel_rfl) (by kernel_rfl) (by kernel_rfl) (by kernel_rfl) (by rfl) (fun _ h => ⟨h.1, h.2.1, h.2.2.1, h.2.2.2.1⟩) (.inl fun _ h => ⟨h.1, h.2.1, h.2.2.1, h.2.2.2.1⟩) (fun _ _ _ h => h) (.inl ⟨by rfl, ?hyb18⟩) hSSb ?_
  case hyb18 =>
    intro w' hSw
    try dsimp only at hSw
    go_simp
    all_goals with_reducible rfl
  try simp only [Act.put]
  refine wpAnyB_take (i := 18) (oi := _) (v := ?vvb19) (fun w' => w'.cell? ⟨g, 2, none⟩ = some (.int .i64 z.hands) ∧ w'.cell? ⟨g, 5, none⟩ = some (.slice VA z.works.length vc) ∧ w'.cell? ⟨g, 7, none⟩ = some (.slice XA z.xs.length xc) ∧ w'.cell? ⟨g, 8, none⟩ = some (.slice PA z.ps.length pc)) rfl (by kernel_rfl) (by kernel_rfl) (by kernel_rfl) (by kernel_rfl) (by rfl) (fun _ h => ⟨h.1, h.2.1, h.2.2.1, h.2.2.2.1⟩) (.inl fun _ h => ⟨h.1, h.2.1, h.2.2.1, h.2.2.2.1⟩) (fun _ _ _ h => h) (.inl ⟨by rfl, ?hyb19⟩) hSSb ?_
  case hyb19 =>
    intro w' hSw
    try dsimp only at hSw
    go_simp
    all_goals with_reducible rfl
  try simp only [Act.put]
  refine wpAnyB_take (i := 19) (oi := _) (v := ?vvb20) (fun w' => w'.cell? ⟨g, 2, none⟩ = some (.int .i64 z.hands) ∧ w'.cell? ⟨g, 5, none⟩ = some (.slice VA z.works.length vc) ∧ w'.cell? ⟨g, 7, none⟩ = some (.slice XA z.xs.length xc) ∧ w'.cell? ⟨g, 8, none⟩ = some (.slice PA z.ps.length pc)) rfl (by kernel_rfl) (by kernel_rfl) (by kernel_rfl) (by kernel_rfl) (by rfl) (fun _ h => ⟨h.1, h.2.1, h.2.2.1, h.2.2.2.1⟩) (.inl fun _ h => ⟨h.1, h.2.1, h.2.2.1, h.2.2.2.1⟩) (fun _ _ _ h => h) (.inl ⟨by rfl, ?hyb20⟩) hSSb ?_
  case hyb20 =>
    intro w' hSw
    try dsimp only at hSw
    go_simp
    all_goals with_reducible rfl
  try simp only [Act.put]
  refine wpAnyB_take (i := 20) (oi := _) (v := ?vvb21) (fun w' => w'.cell? ⟨g, 2, none⟩ = some (.int .i64 z.hands) ∧ w'.cell? ⟨g, 5, none⟩ = some (.slice VA z.works.length vc) ∧ w'.cell? ⟨g, 7, none⟩ = some (.slice XA z.xs.length xc) ∧ w'.cell? ⟨g, 8, none⟩ = some (.slice PA z.ps.length pc)) rfl (by kernel_rfl) (by kernel_rfl) (by kernel_rfl) (by kernel_rfl) (by rfl) (fun _ h => ⟨h.1, h.2.1, h.2.2.1, h.2.2.2.1⟩) (.inl fun _ h => ⟨h.1, h.2.1, h.2.2.1, h.2.2.2.1⟩) (fun _ _ _ h => h) (.inl ⟨by rfl, ?hyb21⟩) hSSb ?_
  case hyb21 =>
    intro w' hSw
    try dsimp only at hSw
    go_simp
    all_goals with_reducible rfl
  try simp only [Act.put]
  refine wpAnyB_take (i := 21) (oi := _) (v := ?vvb22) (fun w' => w'.cell? ⟨g, 2, none⟩ = some (.int .i64 z.hands) ∧ w'.cell? ⟨g, 5, none⟩ = some (.slice VA z.works.length vc) ∧ w'.cell? ⟨g, 7, none⟩ = some (.slice XA z.xs.length xc) ∧ w'.cell? ⟨g, 8, none⟩ = some (.slice PA z.ps.length pc)) rfl (by kernel_rfl) (by kernel_rfl) (by kernel_rfl) (by kernel_rfl) (by rfl) (fun _ h => ⟨h.1, h.2.1, h.2.2.1, h.2.2.2.1⟩) (.inl fun _ h => ⟨h.1, h.2.1, h.2.2.1, h.2.2.2.1⟩) (fun _ _ _ h => h) (.inl ⟨by rfl, ?hyb22⟩) hSSb ?_
  case hyb22 =>
    intro w' hSw
    try dsimp only at hSw
    go_simp
    all_goals with_reducible rfl
  try simp only [Act.put]
  refine wpAnyB_take (i := 22) (oi := _) (v := ?vvb23) (fun w' => w'.cell? ⟨g, 2, none⟩ = some (.int .i64 z.hands) ∧ w'.cell? ⟨g, 5, none⟩ = some (.slice VA z.works.length vc) ∧ w'.cell? ⟨g, 7, none⟩ = some (.slice XA z.xs.length xc) ∧ w'.cell? ⟨g, 8, none⟩ = some (.slice PA z.ps.length pc)) rfl (by kernel_rfl) (by kernel_rfl) (by kernel_rfl) (by kernel_rfl) (by rfl) (fun _ h => ⟨h.1, h.2.1, h.2.2.1, h.2.2.2.1⟩) (.inl fun _ h => ⟨h.1, h.2.1, h.2.2.1, h.2.2.2.1⟩) (fun _ _ _ h => h) (.inl ⟨by rfl, ?hyb23⟩) hSSb ?_
  case hyb23 =>
    intro w' hSw
    try dsimp only at hSw
    go_simp
    all_goals with_reducible rfl
  try simp only [Act.put]
  refine wpAnyB_take (i := 23) (oi := _) (v := ?vvb24) (fun w' => w'.cell? ⟨g, 2, none⟩ = some (.int .i64 z.hands) ∧ w'.cell? ⟨g, 5, none⟩ = some (.slice VA z.works.length vc) ∧ w'.cell? ⟨g, 7, none⟩ = some (.slice XA z.xs.length xc) ∧ w'.cell? ⟨g, 8, none⟩ = some (.slice PA z.ps.length pc)) rfl (by kernel_rfl) (by kernel_rfl) (by kernel_rfl) (by kernel_rfl) (by rfl) (fun _ h => ⟨h.1, h.2.1, h.2.2.1, h.2.2.2.1⟩) (.inl fun _ h => ⟨h.1, h.2.1, h.2.2.1, h.2.2.2.1⟩) (fun _ _ _ h => h) (.inl ⟨by rfl, ?hyb24⟩) hSSb ?_
  case hyb24 =>
    intro w' hSw
    try dsimp only at hSw
    go_simp
    all_goals with_reducible rfl
  try simp only [Act.put]
  refine wpAnyB_take (i := 24) (oi := _) (v := ?vvb25) (fun w' => w'.cell? ⟨g, 2, none⟩ = some (.int .i64 z.hands) ∧ w'.cell? ⟨g, 5, none⟩ = some (.slice VA z.works.length vc) ∧ w'.cell? ⟨g, 7, none⟩ = some (.slice XA z.xs.length xc) ∧ w'.cell? ⟨g, 8, none⟩ = some (.slice PA z.ps.length pc)) rfl (by kernel_rfl) (by kernel_rfl) (by kernel_rfl) (by kernel_rfl) (by rfl) (fun _ h => ⟨h.1, h.2.1, h.2.2.1, h.2.2.2.1⟩) (.inl fun _ h => ⟨h.1, h.2.1, h.2.2.1, h.2.2.2.1⟩) (fun _ _ _ h => h) (.inl ⟨by rfl, ?hyb25⟩) hSSb ?_
  case hyb25 =>
    intro w' hSw
    try dsimp only at hSw
    go_simp
    all_goals with_reducible rfl
  try simp only [Act.put]
  refine wpAnyB_one (i := 25) false rfl (by kernel_rfl) (by kernel_rfl) ?_
  intro KK hKK
  go_simp
  have h2 : RowsH (W8.alloc (.cells #[.int .i64 z.hands, .int .i64 (z.works.length : Int), .int .i64 (z.xs.length : Int), .int .i64 (z.ps.length : Int)] 83)).drew B g 81 _ _ := (RowsH.below H8.out ((Below.refl _ W8).alloc (Nat.le_refl _) (.cells #[.int .i64 z.hands, .int .i64 (z.works.length : Int), .int .i64 (z.xs.length : Int), .int .i64 (z.ps.length : Int)] 83))).drew
  have K2 := (K8.out.alloc (.cells #[.int .i64 z.hands, .int .i64 (z.works.length : Int), .int .i64 (z.xs.length : Int), .int .i64 (z.ps.length : Int)] 83)).drew
  have hn2 : ∀ p u, ([.int .i64 z.hands, .int .i64 (z.works.length : Int), .int .i64 (z.xs.length : Int), .int .i64 (z.ps.length : Int)] : List Value)[p]? = some u → (W8.alloc (.cells #[.int .i64 z.hands, .int .i64 (z.works.length : Int), .int .i64 (z.xs.length : Int), .int .i64 (z.ps.length : Int)] 83)).drew.cell? ⟨W8.heap.size, p, none⟩ = some u := fun p u hu => ((Has.new (w := W8) (t := 83) (cs := [.int .i64 z.hands, .int .i64 (z.works.length : Int), .int .i64 (z.xs.length : Int), .int .i64 (z.ps.length : Int)]) rfl).drew.cell p).trans hu
  have B2 := (BLb.alloc H8.out.z (.cells #[.int .i64 z.hands, .int .i64 (z.works.length : Int), .int .i64 (z.xs.length : Int), .int .i64 (z.ps.length : Int)] 83)).drew
  have D2 := ((Below.refl W8.heap.size W8).alloc (Nat.le_refl _) (.cells #[.int .i64 z.hands, .int .i64 (z.works.length : Int), .int .i64 (z.xs.length : Int), .int .i64 (z.ps.length : Int)] 83)).drew
  generalize (W8.alloc (.cells #[.int .i64 z.hands, .int .i64 (z.works.length : Int), .int .i64 (z.xs.length : Int), .int .i64 (z.ps.length : Int)] 83)).drew = W2 at *
  refine hKK.out _ _ ⟨(h2.c).cell 2, (h2.c).cell 5, (h2.c).cell 7, (h2.c).cell 8, fun _ => h2.c.cell 4⟩ ?_
  clear hKK KK
  try simp only [Act.put, List.setIfInBounds_toArray, List.set_cons_zero, List.set_cons_succ]
  refine wpAnyB_one (i := 26) false rfl (by kernel_rfl) (by kernel_rfl) ?_
  intro KK hKK
  refine step_appN rfl (.tmp 41) (.tmp 62) 78 rfl B 83 (.agg #[.int .i64 0, .int .i64 0, .int .i64 0, .int .i64 0]) 4 32 Try.underlying78 infoMark rfl (by omega) (by omega) (.slice MA z.marks.length mc) z.marks.length (qsC z.marks) rfl (h2.o 1 _ rfl) ⟨W8.heap.size, 0, none⟩ 1 1 [.int .i64 z.hands, .int .i64 (z.works.length : Int), .int .i64 (z.xs.length : Int), .int .i64 (z.ps.length : Int)] rfl rfl (fun j u hu => by rw [Addr.add_lit, Nat.zero_add]; exact hn2 j u hu) (by simp [Value.oneCell']) (by omega) h2.z ?_
  intro v' w4 hown4 hgrow4 hnil4 hor4
  obtain ⟨A4, c4, rfl⟩ := own_form hown4
  have h4c : Has w4 g 81 _ := h2.c.same (hgrow4.block _ h2.c.lt (fun e => h2.ne (i := 1) rfl e.symm))
  have K4 := K2.same (hgrow4.block _ K2.lt (fun e => K2.ne_own (h2.o 1 _ rfl) (show 35 ≠ 83 by decide) e.symm))
  have B4 := B2.grown hgrow4 h2.z (fun k hk => ((h2.o 1 _ rfl).lt k hk).1)
  refine hKK.out _ _ ⟨(h4c).cell 2, (h4c).cell 5, (h4c).cell 7, (h4c).cell 8, fun _ => h4c.cell 4⟩ ?_
  clear hKK KK
  try simp only [Act.put, List.setIfInBounds_toArray]
  refine wpAnyB_take (i := 27) (oi := _) (v := ?vvb26) (fun w' => w'.cell? ⟨g, 2, none⟩ = some (.int .i64 z.hands) ∧ w'.cell? ⟨g, 5, none⟩ = some (.slice VA z.works.length vc) ∧ w'.cell? ⟨g, 7, none⟩ = some (.slice XA z.xs.length xc) ∧ w'.cell? ⟨g, 8, none⟩ = some (.slice PA z.ps.length pc)) rfl (by kernel_rfl) (by kernel_rfl) (by kernel_rfl) (by kernel_rfl) (by rfl) (fun _ h => ⟨h.1, h.2.1, h.2.2.1, h.2.2.2.1⟩) (.inl fun _ h => ⟨h.1, h.2.1, h.2.2.1, h.2.2.2.1⟩) (fun _ _ _ h => h) (.inl ⟨by rfl, ?hyb26⟩) ⟨(h4c).cell 2, (h4c).cell 5, (h4c).cell 7, (h4c).cell 8, fun _ => h4c.cell 4⟩ ?_
  case hyb26 =>
    intro w' hSw
    try dsimp only at hSw
    go_simp
    all_goals with_reducible rfl
  try simp only [Act.put]
  refine wpAnyB_take (i := 28) (oi := _) (v := ?vvb27) (fun w' => w'.cell? ⟨g, 2, none⟩ = some (.int .i64 z.hands) ∧ w'.cell? ⟨g, 5, none⟩ = some (.slice VA z.works.length vc) ∧ w'.cell? ⟨g, 7, none⟩ = some (.slice XA z.xs.length xc) ∧ w'.cell? ⟨g, 8, none⟩ = some (.slice PA z.ps.length pc)) rfl (by kernel_rfl) (by kernel_rfl) (by kernel_rfl) (by kernel_rfl) (by rfl) (fun _ h => ⟨h.1, h.2.1, h.2.2.1, h.2.2.2.1⟩) (.inl fun _ h => ⟨h.1, h.2.1, h.2.2.1, h.2.2.2.1⟩) (fun _ _ _ h => h) (.inl ⟨by rfl, ?hyb27⟩) ⟨(h4c).cell 2, (h4c).cell 5, (h4c).cell 7, (h4c).cell 8, fun _ => h4c.cell 4⟩ ?_
  case hyb27 =>
    intro w' hSw
    try dsimp only at hSw
    go_simp
    all_goals with_reducible rfl
  try simp only [Act.put]
  refine wpAnyB_one (i := 29) true rfl (by kernel_rfl) (by kernel_rfl) ?_
  intro KK hKK
  have f4 := h4c.free 4
  have q4 := h4c.lt
  have s4 : w4.cell? ⟨g, 4, none⟩ = some (.slice MA z.marks.length mc) := h4c.cell 4
  go_simp
  refine hKK.out _ _ ⟨(h4c.set 4 (.slice A4 (z.marks.length + 1) c4)).cell 2, (h4c.set 4 (.slice A4 (z.marks.length + 1) c4)).cell 5, (h4c.set 4 (.slice A4 (z.marks.length + 1) c4)).cell 7, (h4c.set 4 (.slice A4 (z.marks.length + 1) c4)).cell 8, fun hh => by cases hh⟩ ?_
  clear hKK KK
  try simp only [Act.put, List.setIfInBounds_toArray, List.set_cons_zero, List.set_cons_succ]
  refine wpAnyB_done (by kernel_rfl) (NoPanic.normal ?_) _
  have h5 := RowsH.grow h2 (i := 1) rfl hgrow4 hown4 4 rfl
  have K5 := K4.far (fun e => NBX e) 4 (.slice A4 (z.marks.length + 1) c4)
  have B5 := B4.setCell (p := ⟨g, 4, none⟩) H8.out.b (.slice A4 (z.marks.length + 1) c4)
  have G5 : Grown g W8 [S8, (.slice MA z.marks.length mc), (.slice VA z.works.length vc), (.slice LA z.l.length lc), (.slice XA z.xs.length xc), (.slice PA z.ps.length pc)] (w4.setCell ⟨g, 4, none⟩ (.slice A4 (z.marks.length + 1) c4)) [S8, (.slice A4 (z.marks.length + 1) c4), (.slice VA z.works.length vc), (.slice LA z.l.length lc), (.slice XA z.xs.length xc), (.slice PA z.ps.length pc)] := (Grown.below D2).trans (Grown.grow (i := 1) rfl hgrow4 hor4 4)
  have H9 : Hid (PilH (w4.setCell ⟨g, 4, none⟩ (.slice A4 (z.marks.length + 1) c4)) B g p s (z.note ⟨kd, at_, wd⟩) S8 (.slice A4 (z.marks.length + 1) c4) (.slice VA z.works.length vc) (.slice LA z.l.length lc) (.slice XA z.xs.length xc) (.slice PA z.ps.length pc)) := by
    show RowsH _ _ _ _ _ _
    rw [rows_note]
    exact h5
  have K9 := Lib.hid K5
  have BLc := B5
  have GG9 : Hid (Grown g W [.slice SA z.steps.length sc, .slice MA z.marks.length mc, .slice VA z.works.length vc, .slice LA z.l.length lc, .slice XA z.xs.length xc, .slice PA z.ps.length pc] (w4.setCell ⟨g, 4, none⟩ (.slice A4 (z.marks.length + 1) c4)) [S8, .slice A4 (z.marks.length + 1) c4, .slice VA z.works.length vc, .slice LA z.l.length lc, .slice XA z.xs.length xc, .slice PA z.ps.length pc]) := GG8.out.trans G5
  generalize hW9 : (w4.setCell ⟨g, 4, none⟩ (.slice A4 (z.marks.length + 1) c4)) = W9 at *
  clear h5 K5 B5 G5 GG8 D2 hW9 H8 K8 BLb h2 K2 B2 B4 h4c K4 hn2 hown4 hgrow4 hnil4 hor4 f4 q4 s4 hSSb
  obtain ⟨M9, hM9⟩ : ∃ M9 : Value, M9 = (.slice A4 (z.marks.length + 1) c4) := ⟨_, rfl⟩
  rw [← hM9] at H9 GG9
  clear hM9
  obtain ⟨mid, hmid⟩ : ∃ mid, mid = 2 * at_.toNat + 1 := ⟨_, rfl⟩
  have i1 : IntKind.i64.wrap (2 * at_) = 2 * at_ := IntWalk.i64_in _ (by omega)
  have i2 : IntKind.i64.wrap (2 * at_ + 1) = (mid : Int) := by rw [IntWalk.i64_in _ (by omega)]; omega
  have HMI : Hid ((mid : Int) = 2 * at_ + 1) := by show _ = _; omega
  have HMID : Hid (stepMid ⟨kd, at_, wd⟩ = mid) := hmid.symm
  have hlen : mid + 1 < z.l.length ∧ z.l.length ≤ 48 := by omega
  have hmb : 1 ≤ mid ∧ mid + 2 < z.l.length := by omega
  have CS := Lib.hid (stickC B g p s (z.note ⟨kd, at_, wd⟩) S8 M9 _ _ _ _ mid true W9 H9.out hlen.1 hlen.2 (by show z.ps.length ≤ _; omega))
  have c1 : W9.cell? ⟨bx, 1, none⟩ = some (.int .i64 at_) := K9.out.cell 1
  have c0 : W9.cell? ⟨bx, 0, none⟩ = some (.int .i64 kd) := K9.out.cell 0
  have c2 : W9.cell? ⟨bx, 2, none⟩ = some (.string wd) := K9.out.cell 2
  have qb := K9.out.lt
  have hk := HK.out
  subst hk
  clear hmid
  go_wp2_with fail
  refine CS.out.mono ?_
  rintro e w5 ⟨⟨v5, rfl⟩, P5, h5, k5, gg5⟩
  have H5 := Lib.hid h5
  have GGs := Lib.hid (GG9.out.trans gg5)
  clear gg5 GG9
  have o5 : W9.ownsRow B 91 6 (.slice PA z.ps.length pc) z.ps.length (pnsC z.ps) := H9.out.o 5 _ rfl
  have hK5 := Lib.hid (k5.has K9.out (fun e => by
    rcases e with e | e
    · exact NBX e
    · exact K9.out.ne_own o5 (show 35 ≠ 91 by decide) e.symm))
  have BLd := BLc.trans (k5.below (fun r hr => by
    rcases hr with rfl | hr
    · exact H9.out.b
    · exact (o5.lt r hr.symm).1) H9.out.z)
  clear CS h5 k5 c0 c1 c2 qb K9 H9 BLc o5
  go_wp2
  refine wp_region_noPanic ?_
  refine wp_region_B (fun b w' => w'.cell? ⟨bx, 1, none⟩ = some (.int .i64 at_) ∧ (b = false → w'.cell? ⟨g, 5, none⟩ = some (.slice VA z.works.length vc))) 12 (by kernel_rfl) ?_
  have hSSd : (fun b w' => w'.cell? ⟨bx, 1, none⟩ = some (.int .i64 at_) ∧ (b = false → w'.cell? ⟨g, 5, none⟩ = some (.slice VA z.works.length vc))) false (w5.drew) := ⟨(hK5.out.drew).cell 1, fun _ => H5.out.c.drew.cell 5⟩
  refine wpAnyB_take (i := 0) (oi := _) (v := ?vvd1) (fun w' => w'.cell? ⟨bx, 1, none⟩ = some (.int .i64 at_)) rfl (by kernel_rfl) (by kernel_rfl) (by kernel_rfl) (by kernel_rfl) (by rfl) (fun _ h => h.1) (.inl fun _ h => h.1) (fun _ _ _ h => h) (.inl ⟨by rfl, ?hyd1⟩) hSSd ?_
  case hyd1 =>
    intro w' hSw
    try dsimp only at hSw
    go_simp
    all_goals with_reducible rfl
  try simp only [Act.put, List.setIfInBounds_toArray]
  refine wpAnyB_take (i := 1) (oi := _) (v := ?vvd2) (fun w' => w'.cell? ⟨bx, 1, none⟩ = some (.int .i64 at_)) rfl (by kernel_rfl) (by kernel_rfl) (by kernel_rfl) (by kernel_rfl) (by rfl) (fun _ h => h.1) (.inl fun _ h => h.1) (fun _ _ _ h => h) (.inl ⟨by rfl, ?hyd2⟩) hSSd ?_
  case hyd2 =>
    intro w' hSw
    try dsimp only at hSw
    go_simp
    all_goals with_reducible rfl
  try simp only [Act.put]
  refine wpAnyB_take (i := 2) (oi := _) (v := ?vvd3) (fun w' => w'.cell? ⟨bx, 1, none⟩ = some (.int .i64 at_)) rfl (by kernel_rfl) (by kernel_rfl) (by kernel_rfl) (by kernel_rfl) (by rfl) (fun _ h => h.1) (.inl fun _ h => h.1) (fun _ _ _ h => h) (.inl ⟨by rfl, ?hyd3⟩) hSSd ?_
  case hyd3 =>
    intro w' hSw
    try dsimp only at hSw
    go_simp
    all_goals with_reducible rfl
  try simp only [Act.put]
  refine wpAnyB_take (i := 3) (oi := _) (v := ?vvd4) (fun w' => w'.cell? ⟨bx, 1, none⟩ = some (.int .i64 at_)) rfl (by kernel_rfl) (by kernel_rfl) (by kernel_rfl) (by kernel_rfl) (by rfl) (fun _ h => h.1) (.inl fun _ h => h.1) (fun _ _ _ h => h) (.inl ⟨by rfl, ?hyd4⟩) hSSd ?_
  case hyd4 =>
    intro w' hSw
    try dsimp only at hSw
    go_simp
    all_goals with_reducible rfl
  try simp only [Act.put]
  refine wpAnyB_take (i := 4) (oi := _) (v := ?vvd5) (fun w' => w'.cell? ⟨bx, 1, none⟩ = some (.int .i64 at_) ∧ w'.cell? ⟨g, 5, none⟩ = some (.slice VA z.works.length vc)) rfl (by kernel_rfl) (by kernel_rfl) (by kernel_rfl) (by kernel_rfl) (by rfl) (fun _ h => ⟨h.1, h.2 rfl⟩) (.inr (by kernel_rfl)) (fun _ _ _ h => h) (.inl ⟨by rfl, ?hyd5⟩) hSSd ?_
  case hyd5 =>
    intro w' hSw
    try dsimp only at hSw
    go_simp
    all_goals with_reducible rfl
  try simp only [Act.put]
  refine wpAnyB_take (i := 5) (oi := _) (v := ?vvd6) (fun w' => w'.cell? ⟨bx, 1, none⟩ = some (.int .i64 at_)) rfl (by kernel_rfl) (by kernel_rfl) (by kernel_rfl) (by kernel_rfl) (by rfl) (fun _ h => h.1) (.inl fun _ h => h.1) (fun _ _ _ h => h) (.inl ⟨by rfl, ?hyd6⟩) hSSd ?_
  case hyd6 =>
    intro w' hSw
    try dsimp only at hSw
    go_simp
    all_goals with_reducible rfl
  try simp only [Act.put]
  refine wpAnyB_take (i := 6) (oi := _) (v := ?vvd7) (fun w' => w'.cell? ⟨bx, 1, none⟩ = some (.int .i64 at_)) rfl (by kernel_rfl) (by kernel_rfl) (by kernel_rfl) (by kernel_rfl) (by rfl) (fun _ h => h.1) (.inl fun _ h => h.1) (fun _ _ _ h => h) (.inl ⟨by rfl, ?hyd7⟩) hSSd ?_
  case hyd7 =>
    intro w' hSw
    try dsimp only at hSw
    go_simp
    all_goals with_reducible rfl
  try simp only [Act.put]
  refine wpAnyB_take (i := 7) (oi := _) (v := ?vvd8) (fun w' => w'.cell? ⟨bx, 1, none⟩ = some (.int .i64 at_)) rfl (by kernel_rfl) (by kernel_rfl) (by kernel_rfl) (by kernel_rfl) (by rfl) (fun _ h => h.1) (.inl fun _ h => h.1) (fun _ _ _ h => h) (.inl ⟨by rfl, ?hyd8⟩) hSSd ?_
  case hyd8 =>
    intro w' hSw
    try dsimp only at hSw
    go_simp
    all_goals with_reducible rfl
  try simp only [Act.put]
  refine wpAnyB_one (i := 8) false rfl (by kernel_rfl) (by kernel_rfl) ?_
  intro KK hKK
  go_simp
  have h2 : RowsH (w5.alloc (.cells #[.int .i64 2, .int .i64 at_, .string ⟨#[]⟩] 86)).drew B g 81 _ _ := (RowsH.below H5.out ((Below.refl _ w5).alloc (Nat.le_refl _) (.cells #[.int .i64 2, .int .i64 at_, .string ⟨#[]⟩] 86))).drew
  have K2 := (hK5.out.alloc (.cells #[.int .i64 2, .int .i64 at_, .string ⟨#[]⟩] 86)).drew
  have hn2 : ∀ p u, ([.int .i64 2, .int .i64 at_, .string ⟨#[]⟩] : List Value)[p]? = some u → (w5.alloc (.cells #[.int .i64 2, .int .i64 at_, .string ⟨#[]⟩] 86)).drew.cell? ⟨w5.heap.size, p, none⟩ = some u := fun p u hu => ((Has.new (w := w5) (t := 86) (cs := [.int .i64 2, .int .i64 at_, .string ⟨#[]⟩]) rfl).drew.cell p).trans hu
  have B2 := (BLd.alloc H5.out.z (.cells #[.int .i64 2, .int .i64 at_, .string ⟨#[]⟩] 86)).drew
  have D2 := ((Below.refl w5.heap.size w5).alloc (Nat.le_refl _) (.cells #[.int .i64 2, .int .i64 at_, .string ⟨#[]⟩] 86)).drew
  generalize (w5.alloc (.cells #[.int .i64 2, .int .i64 at_, .string ⟨#[]⟩] 86)).drew = W2 at *
  refine hKK.out _ _ ⟨(K2).cell 1, fun _ => h2.c.cell 5⟩ ?_
  clear hKK KK
  try simp only [Act.put, List.setIfInBounds_toArray, List.set_cons_zero, List.set_cons_succ]
  refine wpAnyB_one (i := 9) false rfl (by kernel_rfl) (by kernel_rfl) ?_
  intro KK hKK
  refine step_appN rfl (.tmp 88) (.tmp 92) 22 rfl B 86 (.agg #[.int .i64 0, .int .i64 0, .string ⟨#[]⟩]) 3 32 Try.underlying22 infoWk16 rfl (by omega) (by omega) (.slice VA z.works.length vc) z.works.length (wksCells z.works) rfl (h2.o 2 _ rfl) ⟨w5.heap.size, 0, none⟩ 1 1 [.int .i64 2, .int .i64 at_, .string ⟨#[]⟩] rfl rfl (fun j u hu => by rw [Addr.add_lit, Nat.zero_add]; exact hn2 j u hu) (by simp [Value.oneCell']) (by omega) h2.z ?_
  intro v' w4 hown4 hgrow4 hnil4 hor4
  obtain ⟨A4, c4, rfl⟩ := own_form hown4
  have h4c : Has w4 g 81 _ := h2.c.same (hgrow4.block _ h2.c.lt (fun e => h2.ne (i := 2) rfl e.symm))
  have K4 := K2.same (hgrow4.block _ K2.lt (fun e => K2.ne_own (h2.o 2 _ rfl) (show 35 ≠ 86 by decide) e.symm))
  have B4 := B2.grown hgrow4 h2.z (fun k hk => ((h2.o 2 _ rfl).lt k hk).1)
  refine hKK.out _ _ ⟨(K4).cell 1, fun _ => h4c.cell 5⟩ ?_
  clear hKK KK
  try simp only [Act.put, List.setIfInBounds_toArray]
  refine wpAnyB_take (i := 10) (oi := _) (v := ?vvd9) (fun w' => w'.cell? ⟨bx, 1, none⟩ = some (.int .i64 at_)) rfl (by kernel_rfl) (by kernel_rfl) (by kernel_rfl) (by kernel_rfl) (by rfl) (fun _ h => h.1) (.inl fun _ h => h.1) (fun _ _ _ h => h) (.inl ⟨by rfl, ?hyd9⟩) ⟨(K4).cell 1, fun _ => h4c.cell 5⟩ ?_
  case hyd9 =>
    intro w' hSw
    try dsimp only at hSw
    go_simp
    all_goals with_reducible rfl
  try simp only [Act.put]
  refine wpAnyB_take (i := 11) (oi := _) (v := ?vvd10) (fun w' => w'.cell? ⟨bx, 1, none⟩ = some (.int .i64 at_)) rfl (by kernel_rfl) (by kernel_rfl) (by kernel_rfl) (by kernel_rfl) (by rfl) (fun _ h => h.1) (.inl fun _ h => h.1) (fun _ _ _ h => h) (.inl ⟨by rfl, ?hyd10⟩) ⟨(K4).cell 1, fun _ => h4c.cell 5⟩ ?_
  case hyd10 =>
    intro w' hSw
    try dsimp only at hSw
    go_simp
    all_goals with_reducible rfl
  try simp only [Act.put]
  refine wpAnyB_one (i := 12) true rfl (by kernel_rfl) (by kernel_rfl) ?_
  intro KK hKK
  have f4 := h4c.free 5
  have q4 := h4c.lt
  have s4 : w4.cell? ⟨g, 5, none⟩ = some (.slice VA z.works.length vc) := h4c.cell 5
  go_simp
  refine hKK.out _ _ ⟨(K4.far (fun e => NBX e) 5 (.slice A4 (z.works.length + 1) c4)).cell 1, fun hh => by cases hh⟩ ?_
  clear hKK KK
  try simp only [Act.put, List.setIfInBounds_toArray, List.set_cons_zero, List.set_cons_succ]
  refine wpAnyB_done (by kernel_rfl) (NoPanic.normal ?_) _
  have h5 := RowsH.grow h2 (i := 2) rfl hgrow4 hown4 5 rfl
  have K5 := K4.far (fun e => NBX e) 5 (.slice A4 (z.works.length + 1) c4)
  have B5 := B4.setCell (p := ⟨g, 5, none⟩) H5.out.b (.slice A4 (z.works.length + 1) c4)
  have G5 : Grown g w5 [S8, M9, (.slice VA z.works.length vc), (.slice LA z.l.length lc), (.slice XA z.xs.length xc), P5] (w4.setCell ⟨g, 5, none⟩ (.slice A4 (z.works.length + 1) c4)) [S8, M9, (.slice A4 (z.works.length + 1) c4), (.slice LA z.l.length lc), (.slice XA z.xs.length xc), P5] := (Grown.below D2).trans (Grown.grow (i := 2) rfl hgrow4 hor4 5)
  have HST : Hid (z.step ⟨3, at_, wd⟩ = ((z.note ⟨3, at_, wd⟩).stick mid true).work ⟨2, at_, ⟨#[]⟩⟩) := by
    show _ = _
    unfold Pil.step
    rw [if_neg (show ¬ (3 : Int) = 1 by decide), if_pos rfl, HMID.out]
  have H6 : Hid (PilH (w4.setCell ⟨g, 5, none⟩ (.slice A4 (z.works.length + 1) c4)) B g p s (z.step ⟨3, at_, wd⟩) S8 M9 (.slice A4 (z.works.length + 1) c4) (.slice LA z.l.length lc) (.slice XA z.xs.length xc) P5) := by
    show RowsH _ _ _ _ _ _
    rw [HST.out, rows_work ((z.note ⟨3, at_, wd⟩).stick mid true) _ S8 M9 (.slice VA z.works.length vc)]
    exact h5
  have BLe := B5
  have GG6 := Lib.hid (GGs.out.trans G5)
  generalize hW6 : (w4.setCell ⟨g, 5, none⟩ (.slice A4 (z.works.length + 1) c4)) = W6 at *
  clear h5 K5 B5 G5 GGs D2 hW6 H5 hK5 BLd h2 K2 B2 B4 h4c K4 hn2 hown4 hgrow4 hnil4 hor4 f4 q4 s4 hSSd
  go_wp2
  go_ret
  exact ⟨rfl, ⟨S8, M9, _, _, _, P5, H6.out, GG6.out⟩, BLe⟩
set_option maxRecDepth 100000 in
set_option maxHeartbeats 8000000 in
theorem doStitch (B g : Nat) (p s : Int) (z : Pil) (S M V L X P : Value) (kd at_ : Int) (wd : ByteArray) (W : World) (h : PilH W B g p s z S M V L X P) (hwd : wd.size ≤ 9223372036854775807) (hs1 : z.steps.length < 1000) (hs2 : z.marks.length ≤ 1000) (hs3 : z.works.length ≤ 400) (hs4 : z.xs.length ≤ 500000) (hs5 : z.ps.length ≤ 500000) (hs6 : z.l.length = 2 * p.toNat) (hE : pilE p s z ⟨kd, at_, wd⟩ = 0) (hk : kd = 2) :
    Calls Try.prog 12 #[.pointer (some ⟨g, 0, none⟩), .agg #[.int .i64 kd, .int .i64 at_, .string wd]] W fun e w' => e = .returned (.int .i64 0) ∧ (∃ S' M' V' L' X' P', PilH w' B g p s (z.step ⟨kd, at_, wd⟩) S' M' V' L' X' P' ∧ Grown g W [S, M, V, L, X, P] w' [S', M', V', L', X', P']) ∧ Below B W w' := by
  obtain ⟨hp, hsp, q1, q2, q3, q4, q5, q6⟩ := pilE_zero hE
  have q1 : shapeB kd wd = true := q1
  have q2 : wchk wd = 0 := q2
  have q3 : 0 ≤ at_ := q3
  have q4 : at_ ≤ p - 2 := q4
  clear q5 q6
  have HK := Lib.hid hk
  clear hk
  have bxp : ∃ bx, bx = W.heap.size := ⟨_, rfl⟩
  obtain ⟨bx, hbx⟩ := bxp
  obtain ⟨SA, sc, rfl⟩ := own_form (show W.ownsRow B 35 3 S z.steps.length (wksCells z.steps) from h.o 0 _ rfl)
  obtain ⟨MA, mc, rfl⟩ := own_form (show W.ownsRow B 83 4 M z.marks.length (qsC z.marks) from h.o 1 _ rfl)
  obtain ⟨VA, vc, rfl⟩ := own_form (show W.ownsRow B 86 3 V z.works.length (wksCells z.works) from h.o 2 _ rfl)
  obtain ⟨LA, lc, rfl⟩ := own_form (show W.ownsRow B 3 1 L z.l.length (z.l.map vInt) from h.o 3 _ rfl)
  obtain ⟨XA, xc, rfl⟩ := own_form (show W.ownsRow B 47 4 X z.xs.length (qsC z.xs) from h.o 4 _ rfl)
  obtain ⟨PA, pc, rfl⟩ := own_form (show W.ownsRow B 91 6 P z.ps.length (pnsC z.ps) from h.o 5 _ rfl)
  have HE := Lib.hid hE
  have HBS : Hid (some bx ≠ (Value.slice SA z.steps.length sc).ownBlock) := fun e => by
    have h0 : W.ownsRow B 35 3 (.slice SA z.steps.length sc) z.steps.length (wksCells z.steps) := h.o 0 _ rfl
    have := (h0.lt bx e.symm).2
    omega
  have NBX : bx ≠ g := fun e => by have := h.c.lt; omega
  have a0 : W.cell? ⟨g, 0, none⟩ = some (.int .i64 p) := RowsH.cell h 0
  have a3 : W.cell? ⟨g, 3, none⟩ = some (.slice SA z.steps.length sc) := RowsH.cell h 3
  have hgW := h.c.lt
  have s3 : ((z.steps.length : Int) == 1000) = false := by simp; omega
  have h1 := RowsH.below h ((Below.refl W.heap.size W).alloc (Nat.le_refl _) (.cells #[.int .i64 kd, .int .i64 at_, .string wd] 35))
  have CM := Lib.hid (madeC g p (W.alloc (.cells #[.int .i64 kd, .int .i64 at_, .string wd] 35)) (by omega) (RowsH.cell h1 0))
  have CC := Lib.hid (checkC B g p s z _ _ _ _ _ _ kd at_ wd (W.alloc (.cells #[.int .i64 kd, .int .i64 at_, .string wd] 35)) h1 hwd)
  rw [hE] at CC
  have K1 : Has (W.alloc (.cells #[.int .i64 kd, .int .i64 at_, .string wd] 35)) bx 35 [.int .i64 kd, .int .i64 at_, .string wd] := by rw [hbx]; exact Has.new rfl
  have H1 := Lib.hid h1
  have B1 : Below B W (W.alloc (.cells #[.int .i64 kd, .int .i64 at_, .string wd] 35)) := (Below.refl _ _).alloc h.z _
  clear hE h1
  go_enter Try.func12, Try.ntmps12
  go_wp2_with fail
  refine CM.out.mono ?_
  rintro e w1 ⟨rfl, rfl⟩
  go_wp2_with fail
  refine CC.out.mono ?_
  rintro e w2 ⟨rfl, hb2⟩
  have h2 : RowsH w2 B g 81 _ _ := RowsH.below H1.out hb2
  have K2 := K1.below hb2 K1.lt
  have BLa := B1.trans (hb2.mono H1.out.z)
  have GG2 := Lib.hid (Grown.below (g := g) (vs := [.slice SA z.steps.length sc, .slice MA z.marks.length mc, .slice VA z.works.length vc, .slice LA z.l.length lc, .slice XA z.xs.length xc, .slice PA z.ps.length pc]) (bvia (show Below W.heap.size W (W.alloc (.cells #[.int .i64 kd, .int .i64 at_, .string wd] 35)) by go_grown) hb2))
  rw [← hbx]
  clear H1 K1 B1 hb2 CM CC a0 a3 h hgW hbx
  have H2 := Lib.hid h2
  have hK2 := Lib.hid K2
  clear h2 K2
  go_wp2
  refine wp_region_noPanic ?_
  refine wp_region_B (fun b w' => w'.cell? ⟨bx, 0, none⟩ = some (.int .i64 kd) ∧ w'.cell? ⟨bx, 1, none⟩ = some (.int .i64 at_) ∧ w'.cell? ⟨bx, 2, none⟩ = some (.string wd) ∧ (b = false → w'.cell? ⟨g, 3, none⟩ = some (.slice SA z.steps.length sc))) 10 (by kernel_rfl) ?_
  have hSSa : (fun b w' => w'.cell? ⟨bx, 0, none⟩ = some (.int .i64 kd) ∧ w'.cell? ⟨bx, 1, none⟩ = some (.int .i64 at_) ∧ w'.cell? ⟨bx, 2, none⟩ = some (.string wd) ∧ (b = false → w'.cell? ⟨g, 3, none⟩ = some (.slice SA z.steps.length sc))) false (w2.drew) := ⟨(hK2.out.drew).cell 0, (hK2.out.drew).cell 1, (hK2.out.drew).cell 2, fun _ => H2.out.c.drew.cell 3⟩
  refine wpAnyB_take (i := 0) (oi := _) (v := ?vva1) (fun w' => w'.cell? ⟨bx, 0, none⟩ = some (.int .i64 kd) ∧ w'.cell? ⟨bx, 1, none⟩ = some (.int .i64 at_) ∧ w'.cell? ⟨bx, 2, none⟩ = some (.string wd)) rfl (by kernel_rfl) (by kernel_rfl) (by kernel_rfl) (by kernel_rfl) (by rfl) (fun _ h => ⟨h.1, h.2.1, h.2.2.1⟩) (.inl fun _ h => ⟨h.1, h.2.1, h.2.2.1⟩) (fun _ _ _ h => h) (.inl ⟨by rfl, ?hya1⟩) hSSa ?_
  case hya1 =>
    intro w' hSw
    try dsimp only at hSw
    go_simp
    all_goals with_reducible rfl
  try simp only [Act.put, List.setIfInBounds_toArray]
  refine wpAnyB_take (i := 1) (oi := _) (v := ?vva2) (fun w' => w'.cell? ⟨bx, 0, none⟩ = some (.int .i64 kd) ∧ w'.cell? ⟨bx, 1, none⟩ = some (.int .i64 at_) ∧ w'.cell? ⟨bx, 2, none⟩ = some (.string wd)) rfl (by kernel_rfl) (by kernel_rfl) (by kernel_rfl) (by kernel_rfl) (by rfl) (fun _ h => ⟨h.1, h.2.1, h.2.2.1⟩) (.inl fun _ h => ⟨h.1, h.2.1, h.2.2.1⟩) (fun _ _ _ h => h) (.inl ⟨by rfl, ?hya2⟩) hSSa ?_
  case hya2 =>
    intro w' hSw
    try dsimp only at hSw
    go_simp
    all_goals with_reducible rfl
  try simp only [Act.put]
  refine wpAnyB_take (i := 2) (oi := _) (v := ?vva3) (fun w' => w'.cell? ⟨bx, 0, none⟩ = some (.int .i64 kd) ∧ w'.cell? ⟨bx, 1, none⟩ = some (.int .i64 at_) ∧ w'.cell? ⟨bx, 2, none⟩ = some (.string wd)) rfl (by kernel_rfl) (by kernel_rfl) (by kernel_rfl) (by kernel_rfl) (by rfl) (fun _ h => ⟨h.1, h.2.1, h.2.2.1⟩) (.inl fun _ h => ⟨h.1, h.2.1, h.2.2.1⟩) (fun _ _ _ h => h) (.inl ⟨by rfl, ?hya3⟩) hSSa ?_
  case hya3 =>
    intro w' hSw
    try dsimp only at hSw
    go_simp
    all_goals with_reducible rfl
  try simp only [Act.put]
  refine wpAnyB_take (i := 3) (oi := _) (v := ?vva4) (fun w' => w'.cell? ⟨bx, 0, none⟩ = some (.int .i64 kd) ∧ w'.cell? ⟨bx, 1, none⟩ = some (.int .i64 at_) ∧ w'.cell? ⟨bx, 2, none⟩ = some (.string wd)) rfl (by kernel_rfl) (by kernel_rfl) (by kernel_rfl) (by kernel_rfl) (by rfl) (fun _ h => ⟨h.1, h.2.1, h.2.2.1⟩) (.inl fun _ h => ⟨h.1, h.2.1, h.2.2.1⟩) (fun _ _ _ h => h) (.inl ⟨by rfl, ?hya4⟩) hSSa ?_
  case hya4 =>
    intro w' hSw
    try dsimp only at hSw
    go_simp
    all_goals with_reducible rfl
  try simp only [Act.put]
  refine wpAnyB_take (i := 4) (oi := _) (v := ?vva5) (fun w' => w'.cell? ⟨bx, 0, none⟩ = some (.int .i64 kd) ∧ w'.cell? ⟨bx, 1, none⟩ = some (.int .i64 at_) ∧ w'.cell? ⟨bx, 2, none⟩ = some (.string wd) ∧ w'.cell? ⟨g, 3, none⟩ = some (.slice SA z.steps.length sc)) rfl (by kernel_rfl) (by kernel_rfl) (by kernel_rfl) (by kernel_rfl) (by rfl) (fun _ h => ⟨h.1, h.2.1, h.2.2.1, h.2.2.2 rfl⟩) (.inr (by kernel_rfl)) (fun _ _ _ h => h) (.inl ⟨by rfl, ?hya5⟩) hSSa ?_
  case hya5 =>
    intro w' hSw
    try dsimp only at hSw
    go_simp
    all_goals with_reducible rfl
  try simp only [Act.put]
  refine wpAnyB_take (i := 5) (oi := _) (v := ?vva6) (fun w' => w'.cell? ⟨bx, 0, none⟩ = some (.int .i64 kd) ∧ w'.cell? ⟨bx, 1, none⟩ = some (.int .i64 at_) ∧ w'.cell? ⟨bx, 2, none⟩ = some (.string wd)) rfl (by kernel_rfl) (by kernel_rfl) (by kernel_rfl) (by kernel_rfl) (by rfl) (fun _ h => ⟨h.1, h.2.1, h.2.2.1⟩) (.inl fun _ h => ⟨h.1, h.2.1, h.2.2.1⟩) (fun _ _ _ h => h) (.inl ⟨by rfl, ?hya6⟩) hSSa ?_
  case hya6 =>
    intro w' hSw
    try dsimp only at hSw
    go_simp
    all_goals with_reducible rfl
  try simp only [Act.put]
  refine wpAnyB_one (i := 6) false rfl (by kernel_rfl) (by kernel_rfl) ?_
  intro KK hKK
  go_simp
  have h2 : RowsH (w2.alloc (.cells #[.int .i64 kd, .int .i64 at_, .string wd] 35)).drew B g 81 _ _ := (RowsH.below H2.out ((Below.refl _ w2).alloc (Nat.le_refl _) (.cells #[.int .i64 kd, .int .i64 at_, .string wd] 35))).drew
  have K2 := (hK2.out.alloc (.cells #[.int .i64 kd, .int .i64 at_, .string wd] 35)).drew
  have hn2 : ∀ p u, ([.int .i64 kd, .int .i64 at_, .string wd] : List Value)[p]? = some u → (w2.alloc (.cells #[.int .i64 kd, .int .i64 at_, .string wd] 35)).drew.cell? ⟨w2.heap.size, p, none⟩ = some u := fun p u hu => ((Has.new (w := w2) (t := 35) (cs := [.int .i64 kd, .int .i64 at_, .string wd]) rfl).drew.cell p).trans hu
  have B2 := (BLa.alloc H2.out.z (.cells #[.int .i64 kd, .int .i64 at_, .string wd] 35)).drew
  have D2 := ((Below.refl w2.heap.size w2).alloc (Nat.le_refl _) (.cells #[.int .i64 kd, .int .i64 at_, .string wd] 35)).drew
  generalize (w2.alloc (.cells #[.int .i64 kd, .int .i64 at_, .string wd] 35)).drew = W2 at *
  refine hKK.out _ _ ⟨(K2).cell 0, (K2).cell 1, (K2).cell 2, fun _ => h2.c.cell 3⟩ ?_
  clear hKK KK
  try simp only [Act.put, List.setIfInBounds_toArray, List.set_cons_zero, List.set_cons_succ]
  refine wpAnyB_one (i := 7) false rfl (by kernel_rfl) (by kernel_rfl) ?_
  intro KK hKK
  refine step_appN rfl (.tmp 31) (.tmp 33) 25 rfl B 35 (.agg #[.int .i64 0, .int .i64 0, .string ⟨#[]⟩]) 3 32 Try.underlying25 infoCs rfl (by omega) (by omega) (.slice SA z.steps.length sc) z.steps.length (wksCells z.steps) rfl (h2.o 0 _ rfl) ⟨w2.heap.size, 0, none⟩ 1 1 [.int .i64 kd, .int .i64 at_, .string wd] rfl rfl (fun j u hu => by rw [Addr.add_lit, Nat.zero_add]; exact hn2 j u hu) (by simp [Value.oneCell']) (by omega) h2.z ?_
  intro v' w4 hown4 hgrow4 hnil4 hor4
  obtain ⟨A4, c4, rfl⟩ := own_form hown4
  have h4c : Has w4 g 81 _ := h2.c.same (hgrow4.block _ h2.c.lt (fun e => h2.ne (i := 0) rfl e.symm))
  have K4 := K2.same (hgrow4.block _ K2.lt (HBS.out))
  have B4 := B2.grown hgrow4 h2.z (fun k hk => ((h2.o 0 _ rfl).lt k hk).1)
  refine hKK.out _ _ ⟨(K4).cell 0, (K4).cell 1, (K4).cell 2, fun _ => h4c.cell 3⟩ ?_
  clear hKK KK
  try simp only [Act.put, List.setIfInBounds_toArray]
  refine wpAnyB_take (i := 8) (oi := _) (v := ?vva7) (fun w' => w'.cell? ⟨bx, 0, none⟩ = some (.int .i64 kd) ∧ w'.cell? ⟨bx, 1, none⟩ = some (.int .i64 at_) ∧ w'.cell? ⟨bx, 2, none⟩ = some (.string wd)) rfl (by kernel_rfl) (by kernel_rfl) (by kernel_rfl) (by kernel_rfl) (by rfl) (fun _ h => ⟨h.1, h.2.1, h.2.2.1⟩) (.inl fun _ h => ⟨h.1, h.2.1, h.2.2.1⟩) (fun _ _ _ h => h) (.inl ⟨by rfl, ?hya7⟩) ⟨(K4).cell 0, (K4).cell 1, (K4).cell 2, fun _ => h4c.cell 3⟩ ?_
  case hya7 =>
    intro w' hSw
    try dsimp only at hSw
    go_simp
    all_goals with_reducible rfl
  try simp only [Act.put]
  refine wpAnyB_take (i := 9) (oi := _) (v := ?vva8) (fun w' => w'.cell? ⟨bx, 0, none⟩ = some (.int .i64 kd) ∧ w'.cell? ⟨bx, 1, none⟩ = some (.int .i64 at_) ∧ w'.cell? ⟨bx, 2, none⟩ = some (.string wd)) rfl (by kernel_rfl) (by kernel_rfl) (by kernel_rfl) (by kernel_rfl) (by rfl) (fun _ h => ⟨h.1, h.2.1, h.2.2.1⟩) (.inl fun _ h => ⟨h.1, h.2.1, h.2.2.1⟩) (fun _ _ _ h => h) (.inl ⟨by rfl, ?hya8⟩) ⟨(K4).cell 0, (K4).cell 1, (K4).cell 2, fun _ => h4c.cell 3⟩ ?_
  case hya8 =>
    intro w' hSw
    try dsimp only at hSw
    go_simp
    all_goals with_reducible rfl
  try simp only [Act.put]
  refine wpAnyB_one (i := 10) true rfl (by kernel_rfl) (by kernel_rfl) ?_
  intro KK hKK
  have f4 := h4c.free 3
  have q4 := h4c.lt
  have s4 : w4.cell? ⟨g, 3, none⟩ = some (.slice SA z.steps.length sc) := h4c.cell 3
  go_simp
  refine hKK.out _ _ ⟨(K4.far (fun e => NBX e) 3 (.slice A4 (z.steps.length + 1) c4)).cell 0, (K4.far (fun e => NBX e) 3 (.slice A4 (z.steps.length + 1) c4)).cell 1, (K4.far (fun e => NBX e) 3 (.slice A4 (z.steps.length + 1) c4)).cell 2, fun hh => by cases hh⟩ ?_
  clear hKK KK
  try simp only [Act.put, List.setIfInBounds_toArray, List.set_cons_zero, List.set_cons_succ]
  refine wpAnyB_done (by kernel_rfl) (NoPanic.normal ?_) _
  have h5 := RowsH.grow h2 (i := 0) rfl hgrow4 hown4 3 rfl
  have K5 := K4.far (fun e => NBX e) 3 (.slice A4 (z.steps.length + 1) c4)
  have B5 := B4.setCell (p := ⟨g, 3, none⟩) H2.out.b (.slice A4 (z.steps.length + 1) c4)
  have G5 : Grown g w2 [(.slice SA z.steps.length sc), (.slice MA z.marks.length mc), (.slice VA z.works.length vc), (.slice LA z.l.length lc), (.slice XA z.xs.length xc), (.slice PA z.ps.length pc)] (w4.setCell ⟨g, 3, none⟩ (.slice A4 (z.steps.length + 1) c4)) [(.slice A4 (z.steps.length + 1) c4), (.slice MA z.marks.length mc), (.slice VA z.works.length vc), (.slice LA z.l.length lc), (.slice XA z.xs.length xc), (.slice PA z.ps.length pc)] := (Grown.below D2).trans (Grown.grow (i := 0) rfl hgrow4 hor4 3)
  have H8 : Hid (PilH (w4.setCell ⟨g, 3, none⟩ (.slice A4 (z.steps.length + 1) c4)) B g p s { z with steps := z.steps ++ [⟨kd, at_, wd⟩] } (.slice A4 (z.steps.length + 1) c4) (.slice MA z.marks.length mc) (.slice VA z.works.length vc) (.slice LA z.l.length lc) (.slice XA z.xs.length xc) (.slice PA z.ps.length pc)) := by
    show RowsH _ _ _ _ _ _
    rw [rows_steps]
    exact h5
  have K8 := Lib.hid K5
  have BLb := B5
  have GG8 : Hid (Grown g W [.slice SA z.steps.length sc, .slice MA z.marks.length mc, .slice VA z.works.length vc, .slice LA z.l.length lc, .slice XA z.xs.length xc, .slice PA z.ps.length pc] (w4.setCell ⟨g, 3, none⟩ (.slice A4 (z.steps.length + 1) c4)) [.slice A4 (z.steps.length + 1) c4, .slice MA z.marks.length mc, .slice VA z.works.length vc, .slice LA z.l.length lc, .slice XA z.xs.length xc, .slice PA z.ps.length pc]) := GG2.out.trans G5
  generalize hW8 : (w4.setCell ⟨g, 3, none⟩ (.slice A4 (z.steps.length + 1) c4)) = W8 at *
  clear h5 K5 B5 G5 GG2 D2 hW8 H2 hK2 BLa h2 K2 B2 B4 h4c K4 hn2 hown4 hgrow4 hnil4 hor4 f4 q4 s4 hSSa
  obtain ⟨S8, hS8⟩ : ∃ S8 : Value, S8 = (.slice A4 (z.steps.length + 1) c4) := ⟨_, rfl⟩
  rw [← hS8] at H8 GG8
  clear hS8
  go_wp2
  refine wp_region_noPanic ?_
  refine wp_region_B (fun b w' => w'.cell? ⟨g, 2, none⟩ = some (.int .i64 z.hands) ∧ w'.cell? ⟨g, 5, none⟩ = some (.slice VA z.works.length vc) ∧ w'.cell? ⟨g, 7, none⟩ = some (.slice XA z.xs.length xc) ∧ w'.cell? ⟨g, 8, none⟩ = some (.slice PA z.ps.length pc) ∧ (b = false → w'.cell? ⟨g, 4, none⟩ = some (.slice MA z.marks.length mc))) 29 (by kernel_rfl) ?_
  have hSSb : (fun b w' => w'.cell? ⟨g, 2, none⟩ = some (.int .i64 z.hands) ∧ w'.cell? ⟨g, 5, none⟩ = some (.slice VA z.works.length vc) ∧ w'.cell? ⟨g, 7, none⟩ = some (.slice XA z.xs.length xc) ∧ w'.cell? ⟨g, 8, none⟩ = some (.slice PA z.ps.length pc) ∧ (b = false → w'.cell? ⟨g, 4, none⟩ = some (.slice MA z.marks.length mc))) false (W8.drew) := ⟨(H8.out.c.drew).cell 2, (H8.out.c.drew).cell 5, (H8.out.c.drew).cell 7, (H8.out.c.drew).cell 8, fun _ => H8.out.c.drew.cell 4⟩
  refine wpAnyB_take (i := 0) (oi := _) (v := ?vvb1) (fun w' => w'.cell? ⟨g, 2, none⟩ = some (.int .i64 z.hands) ∧ w'.cell? ⟨g, 5, none⟩ = some (.slice VA z.works.length vc) ∧ w'.cell? ⟨g, 7, none⟩ = some (.slice XA z.xs.length xc) ∧ w'.cell? ⟨g, 8, none⟩ = some (.slice PA z.ps.length pc)) rfl (by kernel_rfl) (by kernel_rfl) (by kernel_rfl) (by kernel_rfl) (by rfl) (fun _ h => ⟨h.1, h.2.1, h.2.2.1, h.2.2.2.1⟩) (.inl fun _ h => ⟨h.1, h.2.1, h.2.2.1, h.2.2.2.1⟩) (fun _ _ _ h => h) (.inl ⟨by rfl, ?hyb1⟩) hSSb ?_
  case hyb1 =>
    intro w' hSw
    try dsimp only at hSw
    go_simp
    all_goals with_reducible rfl
  try simp only [Act.put, List.setIfInBounds_toArray]
  refine wpAnyB_take (i := 1) (oi := _) (v := ?vvb2) (fun w' => w'.cell? ⟨g, 2, none⟩ = some (.int .i64 z.hands) ∧ w'.cell? ⟨g, 5, none⟩ = some (.slice VA z.works.length vc) ∧ w'.cell? ⟨g, 7, none⟩ = some (.slice XA z.xs.length xc) ∧ w'.cell? ⟨g, 8, none⟩ = some (.slice PA z.ps.length pc)) rfl (by kernel_rfl) (by kernel_rfl) (by kernel_rfl) (by kernel_rfl) (by rfl) (fun _ h => ⟨h.1, h.2.1, h.2.2.1, h.2.2.2.1⟩) (.inl fun _ h => ⟨h.1, h.2.1, h.2.2.1, h.2.2.2.1⟩) (fun _ _ _ h => h) (.inl ⟨by rfl, ?hyb2⟩) hSSb ?_
  case hyb2 =>
    intro w' hSw
    try dsimp only at hSw
    go_simp
    all_goals with_reducible rfl
  try simp only [Act.put]
  refine wpAnyB_take (i := 2) (oi := _) (v := ?vvb3) (fun w' => w'.cell? ⟨g, 2, none⟩ = some (.int .i64 z.hands) ∧ w'.cell? ⟨g, 5, none⟩ = some (.slice VA z.works.length vc) ∧ w'.cell? ⟨g, 7, none⟩ = some (.slice XA z.xs.length xc) ∧ w'.cell? ⟨g, 8, none⟩ = some (.slice PA z.ps.length pc)) rfl (by kernel_rfl) (by kernel_rfl) (by kernel_rfl) (by kernel_rfl) (by rfl) (fun _ h => ⟨h.1, h.2.1, h.2.2.1, h.2.2.2.1⟩) (.inl fun _ h => ⟨h.1, h.2.1, h.2.2.1, h.2.2.2.1⟩) (fun _ _ _ h => h) (.inl ⟨by rfl, ?hyb3⟩) hSSb ?_
  case hyb3 =>
    intro w' hSw
    try dsimp only at hSw
    go_simp
    all_goals with_reducible rfl
  try simp only [Act.put]
  refine wpAnyB_take (i := 3) (oi := _) (v := ?vvb4) (fun w' => w'.cell? ⟨g, 2, none⟩ = some (.int .i64 z.hands) ∧ w'.cell? ⟨g, 5, none⟩ = some (.slice VA z.works.length vc) ∧ w'.cell? ⟨g, 7, none⟩ = some (.slice XA z.xs.length xc) ∧ w'.cell? ⟨g, 8, none⟩ = some (.slice PA z.ps.length pc)) rfl (by kernel_rfl) (by kernel_rfl) (by kernel_rfl) (by kernel_rfl) (by rfl) (fun _ h => ⟨h.1, h.2.1, h.2.2.1, h.2.2.2.1⟩) (.inl fun _ h => ⟨h.1, h.2.1, h.2.2.1, h.2.2.2.1⟩) (fun _ _ _ h => h) (.inl ⟨by rfl, ?hyb4⟩) hSSb ?_
  case hyb4 =>
    intro w' hSw
    try dsimp only at hSw
    go_simp
    all_goals with_reducible rfl
  try simp only [Act.put]
  refine wpAnyB_take (i := 4) (oi := _) (v := ?vvb5) (fun w' => w'.cell? ⟨g, 2, none⟩ = some (.int .i64 z.hands) ∧ w'.cell? ⟨g, 5, none⟩ = some (.slice VA z.works.length vc) ∧ w'.cell? ⟨g, 7, none⟩ = some (.slice XA z.xs.length xc) ∧ w'.cell? ⟨g, 8, none⟩ = some (.slice PA z.ps.length pc) ∧ w'.cell? ⟨g, 4, none⟩ = some (.slice MA z.marks.length mc)) rfl (by kernel_rfl) (by kernel_rfl) (by kernel_rfl) (by kernel_rfl) (by rfl) (fun _ h => ⟨h.1, h.2.1, h.2.2.1, h.2.2.2.1, h.2.2.2.2 rfl⟩) (.inr (by kernel_rfl)) (fun _ _ _ h => h) (.inl ⟨by rfl, ?hyb5⟩) hSSb ?_
  case hyb5 =>
    intro w' hSw
    try dsimp only at hSw
    go_simp
    all_goals with_reducible rfl
  try simp only [Act.put]
  refine wpAnyB_take (i := 5) (oi := _) (v := ?vvb6) (fun w' => w'.cell? ⟨g, 2, none⟩ = some (.int .i64 z.hands) ∧ w'.cell? ⟨g, 5, none⟩ = some (.slice VA z.works.length vc) ∧ w'.cell? ⟨g, 7, none⟩ = some (.slice XA z.xs.length xc) ∧ w'.cell? ⟨g, 8, none⟩ = some (.slice PA z.ps.length pc)) rfl (by kernel_rfl) (by kernel_rfl) (by kernel_rfl) (by kernel_rfl) (by rfl) (fun _ h => ⟨h.1, h.2.1, h.2.2.1, h.2.2.2.1⟩) (.inl fun _ h => ⟨h.1, h.2.1, h.2.2.1, h.2.2.2.1⟩) (fun _ _ _ h => h) (.inl ⟨by rfl, ?hyb6⟩) hSSb ?_
  case hyb6 =>
    intro w' hSw
    try dsimp only at hSw
    go_simp
    all_goals with_reducible rfl
  try simp only [Act.put]
  refine wpAnyB_take (i := 6) (oi := _) (v := ?vvb7) (fun w' => w'.cell? ⟨g, 2, none⟩ = some (.int .i64 z.hands) ∧ w'.cell? ⟨g, 5, none⟩ = some (.slice VA z.works.length vc) ∧ w'.cell? ⟨g, 7, none⟩ = some (.slice XA z.xs.length xc) ∧ w'.cell? ⟨g, 8, none⟩ = some (.slice PA z.ps.length pc)) rfl (by kernel_rfl) (by kernel_rfl) (by kernel_rfl) (by kernel_rfl) (by rfl) (fun _ h => ⟨h.1, h.2.1, h.2.2.1, h.2.2.2.1⟩) (.inl fun _ h => ⟨h.1, h.2.1, h.2.2.1, h.2.2.2.1⟩) (fun _ _ _ h => h) (.inl ⟨by rfl, ?hyb7⟩) hSSb ?_
  case hyb7 =>
    intro w' hSw
    try dsimp only at hSw
    go_simp
    all_goals with_reducible rfl
  try simp only [Act.put]
  refine wpAnyB_take (i := 7) (oi := _) (v := ?vvb8) (fun w' => w'.cell? ⟨g, 2, none⟩ = some (.int .i64 z.hands) ∧ w'.cell? ⟨g, 5, none⟩ = some (.slice VA z.works.length vc) ∧ w'.cell? ⟨g, 7, none⟩ = some (.slice XA z.xs.length xc) ∧ w'.cell? ⟨g, 8, none⟩ = some (.slice PA z.ps.length pc)) rfl (by kernel_rfl) (by kernel_rfl) (by kernel_rfl) (by kernel_rfl) (by rfl) (fun _ h => ⟨h.1, h.2.1, h.2.2.1, h.2.2.2.1⟩) (.inl fun _ h => ⟨h.1, h.2.1, h.2.2.1, h.2.2.2.1⟩) (fun _ _ _ h => h) (.inl ⟨by rfl, ?hyb8⟩) hSSb ?_
  case hyb8 =>
    intro w' hSw
    try dsimp only at hSw
    go_simp
    all_goals with_reducible rfl
  try simp only [Act.put]
  refine wpAnyB_take (i := 8) (oi := _) (v := ?vvb9) (fun w' => w'.cell? ⟨g, 2, none⟩ = some (.int .i64 z.hands) ∧ w'.cell? ⟨g, 5, none⟩ = some (.slice VA z.works.length vc) ∧ w'.cell? ⟨g, 7, none⟩ = some (.slice XA z.xs.length xc) ∧ w'.cell? ⟨g, 8, none⟩ = some (.slice PA z.ps.length pc)) rfl (by kernel_rfl) (by kernel_rfl) (by kernel_rfl) (by kernel_rfl) (by rfl) (fun _ h => ⟨h.1, h.2.1, h.2.2.1, h.2.2.2.1⟩) (.inl fun _ h => ⟨h.1, h.2.1, h.2.2.1, h.2.2.2.1⟩) (fun _ _ _ h => h) (.inl ⟨by rfl, ?hyb9⟩) hSSb ?_
  case hyb9 =>
    intro w' hSw
    try dsimp only at hSw
    go_simp
    all_goals with_reducible rfl
  try simp only [Act.put]
  refine wpAnyB_take (i := 9) (oi := _) (v := ?vvb10) (fun w' => w'.cell? ⟨g, 2, none⟩ = some (.int .i64 z.hands) ∧ w'.cell? ⟨g, 5, none⟩ = some (.slice VA z.works.length vc) ∧ w'.cell? ⟨g, 7, none⟩ = some (.slice XA z.xs.length xc) ∧ w'.cell? ⟨g, 8, none⟩ = some (.slice PA z.ps.length pc)) rfl (by kernel_rfl) (by kernel_rfl) (by kernel_rfl) (by kernel_rfl) (by rfl) (fun _ h => ⟨h.1, h.2.1, h.2.2.1, h.2.2.2.1⟩) (.inl fun _ h => ⟨h.1, h.2.1, h.2.2.1, h.2.2.2.1⟩) (fun _ _ _ h => h) (.inl ⟨by rfl, ?hyb10⟩) hSSb ?_
  case hyb10 =>
    intro w' hSw
    try dsimp only at hSw
    go_simp
    all_goals with_reducible rfl
  try simp only [Act.put]
  refine wpAnyB_take (i := 10) (oi := _) (v := ?vvb11) (fun w' => w'.cell? ⟨g, 2, none⟩ = some (.int .i64 z.hands) ∧ w'.cell? ⟨g, 5, none⟩ = some (.slice VA z.works.length vc) ∧ w'.cell? ⟨g, 7, none⟩ = some (.slice XA z.xs.length xc) ∧ w'.cell? ⟨g, 8, none⟩ = some (.slice PA z.ps.length pc)) rfl (by kernel_rfl) (by kernel_rfl) (by kernel_rfl) (by kernel_rfl) (by rfl) (fun _ h => ⟨h.1, h.2.1, h.2.2.1, h.2.2.2.1⟩) (.inl fun _ h => ⟨h.1, h.2.1, h.2.2.1, h.2.2.2.1⟩) (fun _ _ _ h => h) (.inl ⟨by rfl, ?hyb11⟩) hSSb ?_
  case hyb11 =>
    intro w' hSw
    try dsimp only at hSw
    go_simp
    all_goals with_reducible rfl
  try simp only [Act.put]
  refine wpAnyB_take (i := 11) (oi := _) (v := ?vvb12) (fun w' => w'.cell? ⟨g, 2, none⟩ = some (.int .i64 z.hands) ∧ w'.cell? ⟨g, 5, none⟩ = some (.slice VA z.works.length vc) ∧ w'.cell? ⟨g, 7, none⟩ = some (.slice XA z.xs.length xc) ∧ w'.cell? ⟨g, 8, none⟩ = some (.slice PA z.ps.length pc)) rfl (by kernel_rfl) (by kernel_rfl) (by kernel_rfl) (by kernel_rfl) (by rfl) (fun _ h => ⟨h.1, h.2.1, h.2.2.1, h.2.2.2.1⟩) (.inl fun _ h => ⟨h.1, h.2.1, h.2.2.1, h.2.2.2.1⟩) (fun _ _ _ h => h) (.inl ⟨by rfl, ?hyb12⟩) hSSb ?_
  case hyb12 =>
    intro w' hSw
    try dsimp only at hSw
    go_simp
    all_goals with_reducible rfl
  try simp only [Act.put]
  refine wpAnyB_take (i := 12) (oi := _) (v := ?vvb13) (fun w' => w'.cell? ⟨g, 2, none⟩ = some (.int .i64 z.hands) ∧ w'.cell? ⟨g, 5, none⟩ = some (.slice VA z.works.length vc) ∧ w'.cell? ⟨g, 7, none⟩ = some (.slice XA z.xs.length xc) ∧ w'.cell? ⟨g, 8, none⟩ = some (.slice PA z.ps.length pc)) rfl (by kernel_rfl) (by kernel_rfl) (by kernel_rfl) (by kernel_rfl) (by rfl) (fun _ h => ⟨h.1, h.2.1, h.2.2.1, h.2.2.2.1⟩) (.inl fun _ h => ⟨h.1, h.2.1, h.2.2.1, h.2.2.2.1⟩) (fun _ _ _ h => h) (.inl ⟨by rfl, ?hyb13⟩) hSSb ?_
  case hyb13 =>
    intro w' hSw
    try dsimp only at hSw
    go_simp
    all_goals with_reducible rfl
  try simp only [Act.put]
  refine wpAnyB_take (i := 13) (oi := _) (v := ?vvb14) (fun w' => w'.cell? ⟨g, 2, none⟩ = some (.int .i64 z.hands) ∧ w'.cell? ⟨g, 5, none⟩ = some (.slice VA z.works.length vc) ∧ w'.cell? ⟨g, 7, none⟩ = some (.slice XA z.xs.length xc) ∧ w'.cell? ⟨g, 8, none⟩ = some (.slice PA z.ps.length pc)) rfl (by kernel_rfl) (by kernel_rfl) (by kernel_rfl) (by kernel_rfl) (by rfl) (fun _ h => ⟨h.1, h.2.1, h.2.2.1, h.2.2.2.1⟩) (.inl fun _ h => ⟨h.1, h.2.1, h.2.2.1, h.2.2.2.1⟩) (fun _ _ _ h => h) (.inl ⟨by rfl, ?hyb14⟩) hSSb ?_
  case hyb14 =>
    intro w' hSw
    try dsimp only at hSw
    go_simp
    all_goals with_reducible rfl
  try simp only [Act.put]
  refine wpAnyB_take (i := 14) (oi := _) (v := ?vvb15) (fun w' => w'.cell? ⟨g, 2, none⟩ = some (.int .i64 z.hands) ∧ w'.cell? ⟨g, 5, none⟩ = some (.slice VA z.works.length vc) ∧ w'.cell? ⟨g, 7, none⟩ = some (.slice XA z.xs.length xc) ∧ w'.cell? ⟨g, 8, none⟩ = some (.slice PA z.ps.length pc)) rfl (by kernel_rfl) (by kernel_rfl) (by kernel_rfl) (by kernel_rfl) (by rfl) (fun _ h => ⟨h.1, h.2.1, h.2.2.1, h.2.2.2.1⟩) (.inl fun _ h => ⟨h.1, h.2.1, h.2.2.1, h.2.2.2.1⟩) (fun _ _ _ h => h) (.inl ⟨by rfl, ?hyb15⟩) hSSb ?_
  case hyb15 =>
    intro w' hSw
    try dsimp only at hSw
    go_simp
    all_goals with_reducible rfl
  try simp only [Act.put]
  refine wpAnyB_take (i := 15) (oi := _) (v := ?vvb16) (fun w' => w'.cell? ⟨g, 2, none⟩ = some (.int .i64 z.hands) ∧ w'.cell? ⟨g, 5, none⟩ = some (.slice VA z.works.length vc) ∧ w'.cell? ⟨g, 7, none⟩ = some (.slice XA z.xs.length xc) ∧ w'.cell? ⟨g, 8, none⟩ = some (.slice PA z.ps.length pc)) rfl (by kernel_rfl) (by kernel_rfl) (by kernel_rfl) (by kernel_rfl) (by rfl) (fun _ h => ⟨h.1, h.2.1, h.2.2.1, h.2.2.2.1⟩) (.inl fun _ h => ⟨h.1, h.2.1, h.2.2.1, h.2.2.2.1⟩) (fun _ _ _ h => h) (.inl ⟨by rfl, ?hyb16⟩) hSSb ?_
  case hyb16 =>
    intro w' hSw
    try dsimp only at hSw
    go_simp
    all_goals with_reducible rfl
  try simp only [Act.put]
  refine wpAnyB_take (i := 16) (oi := _) (v := ?vvb17) (fun w' => w'.cell? ⟨g, 2, none⟩ = some (.int .i64 z.hands) ∧ w'.cell? ⟨g, 5, none⟩ = some (.slice VA z.works.length vc) ∧ w'.cell? ⟨g, 7, none⟩ = some (.slice XA z.xs.length xc) ∧ w'.cell? ⟨g, 8, none⟩ = some (.slice PA z.ps.length pc)) rfl (by kernel_rfl) (by kernel_rfl) (by kernel_rfl) (by kernel_rfl) (by rfl) (fun _ h => ⟨h.1, h.2.1, h.2.2.1, h.2.2.2.1⟩) (.inl fun _ h => ⟨h.1, h.2.1, h.2.2.1, h.2.2.2.1⟩) (fun _ _ _ h => h) (.inl ⟨by rfl, ?hyb17⟩) hSSb ?_
  case hyb17 =>
    intro w' hSw
    try dsimp only at hSw
    go_simp
    all_goals with_reducible rfl
  try simp only [Act.put]
  refine wpAnyB_take (i := 17) (oi := _) (v := ?vvb18) (fun w' => w'.cell? ⟨g, 2, none⟩ = some (.int .i64 z.hands) ∧ w'.cell? ⟨g, 5, none⟩ = some (.slice VA z.works.length vc) ∧ w'.cell? ⟨g, 7, none⟩ = some (.slice XA z.xs.length xc) ∧ w'.cell? ⟨g, 8, none⟩ = some (.slice PA z.ps.length pc)) rfl (by kernel_rfl) (by kernel_rfl) (by kernel_rfl) (by kernel_rfl) (by rfl) (fun _ h => ⟨h.1, h.2.1, h.2.2.1, h.2.2.2.1⟩) (.inl fun _ h => ⟨h.1, h.2.1, h.2.2.1, h.2.2.2.1⟩) (fun _ _ _ h => h) (.inl ⟨by rfl, ?hyb18⟩) hSSb ?_
  case hyb18 =>
    intro w' hSw
    try dsimp only at hSw
    go_simp
    all_goals with_reducible rfl
  try simp only [Act.put]
  refine wpAnyB_take (i := 18) (oi := _) (v := ?vvb19) (fun w' => w'.cell? ⟨g, 2, none⟩ = some (.int .i64 z.hands) ∧ w'.cell? ⟨g, 5, none⟩ = some (.slice VA z.works.length vc) ∧ w'.cell? ⟨g, 7, none⟩ = some (.slice XA z.xs.length xc) ∧ w'.cell? ⟨g, 8, none⟩ = some (.slice PA z.ps.length pc)) rfl (by kernel_rfl) (by kernel_rfl) (by kernel_rfl) (by kernel_rfl) (by rfl) (fun _ h => ⟨h.1, h.2.1, h.2.2.1, h.2.2.2.1⟩) (.inl fun _ h => ⟨h.1, h.2.1, h.2.2.1, h.2.2.2.1⟩) (fun _ _ _ h => h) (.inl ⟨by rfl, ?hyb19⟩) hSSb ?_
  case hyb19 =>
    intro w' hSw
    try dsimp only at hSw
    go_simp
    all_goals with_reducible rfl
  try simp only [Act.put]
  refine wpAnyB_take (i := 19) (oi := _) (v := ?vvb20) (fun w' => w'.cell? ⟨g, 2, none⟩ = some (.int .i64 z.hands) ∧ w'.cell? ⟨g, 5, none⟩ = some (.slice VA z.works.length vc) ∧ w'.cell? ⟨g, 7, none⟩ = some (.slice XA z.xs.length xc) ∧ w'.cell? ⟨g, 8, none⟩ = some (.slice PA z.ps.length pc)) rfl (by kernel_rfl) (by kernel_rfl) (by kernel_rfl) (by kernel_rfl) (by rfl) (fun _ h => ⟨h.1, h.2.1, h.2.2.1, h.2.2.2.1⟩) (.inl fun _ h => ⟨h.1, h.2.1, h.2.2.1, h.2.2.2.1⟩) (fun _ _ _ h => h) (.inl ⟨by rfl, ?hyb20⟩) hSSb ?_
  case hyb20 =>
    intro w' hSw
    try dsimp only at hSw
    go_simp
    all_goals with_reducible rfl
  try simp only [Act.put]
  refine wpAnyB_take (i := 20) (oi := _) (v := ?vvb21) (fun w' => w'.cell? ⟨g, 2, none⟩ = some (.int .i64 z.hands) ∧ w'.cell? ⟨g, 5, none⟩ = some (.slice VA z.works.length vc) ∧ w'.cell? ⟨g, 7, none⟩ = some (.slice XA z.xs.length xc) ∧ w'.cell? ⟨g, 8, none⟩ = some (.slice PA z.ps.length pc)) rfl (by kernel_rfl) (by kernel_rfl) (by kernel_rfl) (by kernel_rfl) (by rfl) (fun _ h => ⟨h.1, h.2.1, h.2.2.1, h.2.2.2.1⟩) (.inl fun _ h => ⟨h.1, h.2.1, h.2.2.1, h.2.2.2.1⟩) (fun _ _ _ h => h) (.inl ⟨by rfl, ?hyb21⟩) hSSb ?_
  case hyb21 =>
    intro w' hSw
    try dsimp only at hSw
    go_simp
    all_goals with_reducible rfl
  try simp only [Act.put]
  refine wpAnyB_take (i := 21) (oi := _) (v := ?vvb22) (fun w' => w'.cell? ⟨g, 2, none⟩ = some (.int .i64 z.hands) ∧ w'.cell? ⟨g, 5, none⟩ = some (.slice VA z.works.length vc) ∧ w'.cell? ⟨g, 7, none⟩ = some (.slice XA z.xs.length xc) ∧ w'.cell? ⟨g, 8, none⟩ = some (.slice PA z.ps.length pc)) rfl (by kernel_rfl) (by kernel_rfl) (by kernel_rfl) (by kernel_rfl) (by rfl) (fun _ h => ⟨h.1, h.2.1, h.2.2.1, h.2.2.2.1⟩) (.inl fun _ h => ⟨h.1, h.2.1, h.2.2.1, h.2.2.2.1⟩) (fun _ _ _ h => h) (.inl ⟨by rfl, ?hyb22⟩) hSSb ?_
  case hyb22 =>
    intro w' hSw
    try dsimp only at hSw
    go_simp
    all_goals with_reducible rfl
  try simp only [Act.put]
  refine wpAnyB_take (i := 22) (oi := _) (v := ?vvb23) (fun w' => w'.cell? ⟨g, 2, none⟩ = some (.int .i64 z.hands) ∧ w'.cell? ⟨g, 5, none⟩ = some (.slice VA z.works.length vc) ∧ w'.cell? ⟨g, 7, none⟩ = some (.slice XA z.xs.length xc) ∧ w'.cell? ⟨g, 8, none⟩ = some (.slice PA z.ps.length pc)) rfl (by kernel_rfl) (by kernel_rfl) (by kernel_rfl) (by kernel_rfl) (by rfl) (fun _ h => ⟨h.1, h.2.1, h.2.2.1, h.2.2.2.1⟩) (.inl fun _ h => ⟨h.1, h.2.1, h.2.2.1, h.2.2.2.1⟩) (fun _ _ _ h => h) (.inl ⟨by rfl, ?hyb23⟩) hSSb ?_
  case hyb23 =>
    intro w' hSw
    try dsimp only at hSw
    go_simp
    all_goals with_reducible rfl
  try simp only [Act.put]
  refine wpAnyB_take (i := 23) (oi := _) (v := ?vvb24) (fun w' => w'.cell? ⟨g, 2, none⟩ = some (.int .i64 z.hands) ∧ w'.cell? ⟨g, 5, none⟩ = some (.slice VA z.works.length vc) ∧ w'.cell? ⟨g, 7, none⟩ = some (.slice XA z.xs.length xc) ∧ w'.cell? ⟨g, 8, none⟩ = some (.slice PA z.ps.length pc)) rfl (by kernel_rfl) (by kernel_rfl) (by kernel_rfl) (by kernel_rfl) (by rfl) (fun _ h => ⟨h.1, h.2.1, h.2.2.1, h.2.2.2.1⟩) (.inl fun _ h => ⟨h.1, h.2.1, h.2.2.1, h.2.2.2.1⟩) (fun _ _ _ h => h) (.inl ⟨by rfl, ?hyb24⟩) hSSb ?_
  case hyb24 =>
    intro w' hSw
    try dsimp only at hSw
    go_simp
    all_goals with_reducible rfl
  try simp only [Act.put]
  refine wpAnyB_take (i := 24) (oi := _) (v := ?vvb25) (fun w' => w'.cell? ⟨g, 2, none⟩ = some (.int .i64 z.hands) ∧ w'.cell? ⟨g, 5, none⟩ = some (.slice VA z.works.length vc) ∧ w'.cell? ⟨g, 7, none⟩ = some (.slice XA z.xs.length xc) ∧ w'.cell? ⟨g, 8, none⟩ = some (.slice PA z.ps.length pc)) rfl (by kernel_rfl) (by kernel_rfl) (by kernel_rfl) (by kernel_rfl) (by rfl) (fun _ h => ⟨h.1, h.2.1, h.2.2.1, h.2.2.2.1⟩) (.inl fun _ h => ⟨h.1, h.2.1, h.2.2.1, h.2.2.2.1⟩) (fun _ _ _ h => h) (.inl ⟨by rfl, ?hyb25⟩) hSSb ?_
  case hyb25 =>
    intro w' hSw
    try dsimp only at hSw
    go_simp
    all_goals with_reducible rfl
  try simp only [Act.put]
  refine wpAnyB_one (i := 25) false rfl (by kernel_rfl) (by kernel_rfl) ?_
  intro KK hKK
  go_simp
  have h2 : RowsH (W8.alloc (.cells #[.int .i64 z.hands, .int .i64 (z.works.length : Int), .int .i64 (z.xs.length : Int), .int .i64 (z.ps.length : Int)] 83)).drew B g 81 _ _ := (RowsH.below H8.out ((Below.refl _ W8).alloc (Nat.le_refl _) (.cells #[.int .i64 z.hands, .int .i64 (z.works.length : Int), .int .i64 (z.xs.length : Int), .int .i64 (z.ps.length : Int)] 83))).drew
  have K2 := (K8.out.alloc (.cells #[.int .i64 z.hands, .int .i64 (z.works.length : Int), .int .i64 (z.xs.length : Int), .int .i64 (z.ps.length : Int)] 83)).drew
  have hn2 : ∀ p u, ([.int .i64 z.hands, .int .i64 (z.works.length : Int), .int .i64 (z.xs.length : Int), .int .i64 (z.ps.length : Int)] : List Value)[p]? = some u → (W8.alloc (.cells #[.int .i64 z.hands, .int .i64 (z.works.length : Int), .int .i64 (z.xs.length : Int), .int .i64 (z.ps.length : Int)] 83)).drew.cell? ⟨W8.heap.size, p, none⟩ = some u := fun p u hu => ((Has.new (w := W8) (t := 83) (cs := [.int .i64 z.hands, .int .i64 (z.works.length : Int), .int .i64 (z.xs.length : Int), .int .i64 (z.ps.length : Int)]) rfl).drew.cell p).trans hu
  have B2 := (BLb.alloc H8.out.z (.cells #[.int .i64 z.hands, .int .i64 (z.works.length : Int), .int .i64 (z.xs.length : Int), .int .i64 (z.ps.length : Int)] 83)).drew
  have D2 := ((Below.refl W8.heap.size W8).alloc (Nat.le_refl _) (.cells #[.int .i64 z.hands, .int .i64 (z.works.length : Int), .int .i64 (z.xs.length : Int), .int .i64 (z.ps.length : Int)] 83)).drew
  generalize (W8.alloc (.cells #[.int .i64 z.hands, .int .i64 (z.works.length : Int), .int .i64 (z.xs.length : Int), .int .i64 (z.ps.length : Int)] 83)).drew = W2 at *
  refine hKK.out _ _ ⟨(h2.c).cell 2, (h2.c).cell 5, (h2.c).cell 7, (h2.c).cell 8, fun _ => h2.c.cell 4⟩ ?_
  clear hKK KK
  try simp only [Act.put, List.setIfInBounds_toArray, List.set_cons_zero, List.set_cons_succ]
  refine wpAnyB_one (i := 26) false rfl (by kernel_rfl) (by kernel_rfl) ?_
  intro KK hKK
  refine step_appN rfl (.tmp 41) (.tmp 62) 78 rfl B 83 (.agg #[.int .i64 0, .int .i64 0, .int .i64 0, .int .i64 0]) 4 32 Try.underlying78 infoMark rfl (by omega) (by omega) (.slice MA z.marks.length mc) z.marks.length (qsC z.marks) rfl (h2.o 1 _ rfl) ⟨W8.heap.size, 0, none⟩ 1 1 [.int .i64 z.hands, .int .i64 (z.works.length : Int), .int .i64 (z.xs.length : Int), .int .i64 (z.ps.length : Int)] rfl rfl (fun j u hu => by rw [Addr.add_lit, Nat.zero_add]; exact hn2 j u hu) (by simp [Value.oneCell']) (by omega) h2.z ?_
  intro v' w4 hown4 hgrow4 hnil4 hor4
  obtain ⟨A4, c4, rfl⟩ := own_form hown4
  have h4c : Has w4 g 81 _ := h2.c.same (hgrow4.block _ h2.c.lt (fun e => h2.ne (i := 1) rfl e.symm))
  have K4 := K2.same (hgrow4.block _ K2.lt (fun e => K2.ne_own (h2.o 1 _ rfl) (show 35 ≠ 83 by decide) e.symm))
  have B4 := B2.grown hgrow4 h2.z (fun k hk => ((h2.o 1 _ rfl).lt k hk).1)
  refine hKK.out _ _ ⟨(h4c).cell 2, (h4c).cell 5, (h4c).cell 7, (h4c).cell 8, fun _ => h4c.cell 4⟩ ?_
  clear hKK KK
  try simp only [Act.put, List.setIfInBounds_toArray]
  refine wpAnyB_take (i := 27) (oi := _) (v := ?vvb26) (fun w' => w'.cell? ⟨g, 2, none⟩ = some (.int .i64 z.hands) ∧ w'.cell? ⟨g, 5, none⟩ = some (.slice VA z.works.length vc) ∧ w'.cell? ⟨g, 7, none⟩ = some (.slice XA z.xs.length xc) ∧ w'.cell? ⟨g, 8, none⟩ = some (.slice PA z.ps.length pc)) rfl (by kernel_rfl) (by kernel_rfl) (by kernel_rfl) (by kernel_rfl) (by rfl) (fun _ h => ⟨h.1, h.2.1, h.2.2.1, h.2.2.2.1⟩) (.inl fun _ h => ⟨h.1, h.2.1, h.2.2.1, h.2.2.2.1⟩) (fun _ _ _ h => h) (.inl ⟨by rfl, ?hyb26⟩) ⟨(h4c).cell 2, (h4c).cell 5, (h4c).cell 7, (h4c).cell 8, fun _ => h4c.cell 4⟩ ?_
  case hyb26 =>
    intro w' hSw
    try dsimp only at hSw
    go_simp
    all_goals with_reducible rfl
  try simp only [Act.put]
  refine wpAnyB_take (i := 28) (oi := _) (v := ?vvb27) (fun w' => w'.cell? ⟨g, 2, none⟩ = some (.int .i64 z.hands) ∧ w'.cell? ⟨g, 5, none⟩ = some (.slice VA z.works.length vc) ∧ w'.cell? ⟨g, 7, none⟩ = some (.slice XA z.xs.length xc) ∧ w'.cell? ⟨g, 8, none⟩ = some (.slice PA z.ps.length pc)) rfl (by kernel_rfl) (by kernel_rfl) (by kernel_rfl) (by kernel_rfl) (by rfl) (fun _ h => ⟨h.1, h.2.1, h.2.2.1, h.2.2.2.1⟩) (.inl fun _ h => ⟨h.1, h.2.1, h.2.2.1, h.2.2.2.1⟩) (fun _ _ _ h => h) (.inl ⟨by rfl, ?hyb27⟩) ⟨(h4c).cell 2, (h4c).cell 5, (h4c).cell 7, (h4c).cell 8, fun _ => h4c.cell 4⟩ ?_
  case hyb27 =>
    intro w' hSw
    try dsimp only at hSw
    go_simp
    all_goals with_reducible rfl
  try simp only [Act.put]
  refine wpAnyB_one (i := 29) true rfl (by kernel_rfl) (by kernel_rfl) ?_
  intro KK hKK
  have f4 := h4c.free 4
  have q4 := h4c.lt
  have s4 : w4.cell? ⟨g, 4, none⟩ = some (.slice MA z.marks.length mc) := h4c.cell 4
  go_simp
  refine hKK.out _ _ ⟨(h4c.set 4 (.slice A4 (z.marks.length + 1) c4)).cell 2, (h4c.set 4 (.slice A4 (z.marks.length + 1) c4)).cell 5, (h4c.set 4 (.slice A4 (z.marks.length + 1) c4)).cell 7, (h4c.set 4 (.slice A4 (z.marks.length + 1) c4)).cell 8, fun hh => by cases hh⟩ ?_
  clear hKK KK
  try simp only [Act.put, List.setIfInBounds_toArray, List.set_cons_zero, List.set_cons_succ]
  refine wpAnyB_done (by kernel_rfl) (NoPanic.normal ?_) _
  have h5 := RowsH.grow h2 (i := 1) rfl hgrow4 hown4 4 rfl
  have K5 := K4.far (fun e => NBX e) 4 (.slice A4 (z.marks.length + 1) c4)
  have B5 := B4.setCell (p := ⟨g, 4, none⟩) H8.out.b (.slice A4 (z.marks.length + 1) c4)
  have G5 : Grown g W8 [S8, (.slice MA z.marks.length mc), (.slice VA z.works.length vc), (.slice LA z.l.length lc), (.slice XA z.xs.length xc), (.slice PA z.ps.length pc)] (w4.setCell ⟨g, 4, none⟩ (.slice A4 (z.marks.length + 1) c4)) [S8, (.slice A4 (z.marks.length + 1) c4), (.slice VA z.works.length vc), (.slice LA z.l.length lc), (.slice XA z.xs.length xc), (.slice PA z.ps.length pc)] := (Grown.below D2).trans (Grown.grow (i := 1) rfl hgrow4 hor4 4)
  have H9 : Hid (PilH (w4.setCell ⟨g, 4, none⟩ (.slice A4 (z.marks.length + 1) c4)) B g p s (z.note ⟨kd, at_, wd⟩) S8 (.slice A4 (z.marks.length + 1) c4) (.slice VA z.works.length vc) (.slice LA z.l.length lc) (.slice XA z.xs.length xc) (.slice PA z.ps.length pc)) := by
    show RowsH _ _ _ _ _ _
    rw [rows_note]
    exact h5
  have K9 := Lib.hid K5
  have BLc := B5
  have GG9 : Hid (Grown g W [.slice SA z.steps.length sc, .slice MA z.marks.length mc, .slice VA z.works.length vc, .slice LA z.l.length lc, .slice XA z.xs.length xc, .slice PA z.ps.length pc] (w4.setCell ⟨g, 4, none⟩ (.slice A4 (z.marks.length + 1) c4)) [S8, .slice A4 (z.marks.length + 1) c4, .slice VA z.works.length vc, .slice LA z.l.length lc, .slice XA z.xs.length xc, .slice PA z.ps.length pc]) := GG8.out.trans G5
  generalize hW9 : (w4.setCell ⟨g, 4, none⟩ (.slice A4 (z.marks.length + 1) c4)) = W9 at *
  clear h5 K5 B5 G5 GG8 D2 hW9 H8 K8 BLb h2 K2 B2 B4 h4c K4 hn2 hown4 hgrow4 hnil4 hor4 f4 q4 s4 hSSb
  obtain ⟨M9, hM9⟩ : ∃ M9 : Value, M9 = (.slice A4 (z.marks.length + 1) c4) := ⟨_, rfl⟩
  rw [← hM9] at H9 GG9
  clear hM9
  obtain ⟨mid, hmid⟩ : ∃ mid, mid = 2 * at_.toNat + 1 := ⟨_, rfl⟩
  have i1 : IntKind.i64.wrap (2 * at_) = 2 * at_ := IntWalk.i64_in _ (by omega)
  have i2 : IntKind.i64.wrap (2 * at_ + 1) = (mid : Int) := by rw [IntWalk.i64_in _ (by omega)]; omega
  have HMI : Hid ((mid : Int) = 2 * at_ + 1) := by show _ = _; omega
  have HMID : Hid (stepMid ⟨kd, at_, wd⟩ = mid) := hmid.symm
  have hlen : mid + 1 < z.l.length ∧ z.l.length ≤ 48 := by omega
  have hmb : 1 ≤ mid ∧ mid + 2 < z.l.length := by omega
  have hw16 : wd.size ≤ 16 ∧ wOk wd = true := by
    unfold wchk at q2
    by_cases c1 : 16 < wd.size
    · rw [if_pos c1] at q2; cases q2
    · rw [if_neg c1] at q2
      cases c2 : wOk wd with
      | true => exact ⟨by omega, rfl⟩
      | false => rw [c2] at q2; cases q2
  have hform := Lib.hid hw16.2
  have hsz := hw16.1
  have hm : wd.data.toList.length = wd.size := str_len _
  have HST : Hid (z.step ⟨2, at_, wd⟩ = ((z.note ⟨2, at_, wd⟩).letters mid wd.data.toList wd.size).work ⟨1, at_, wd⟩) := by
    show _ = _
    unfold Pil.step
    rw [if_neg (show ¬ (2 : Int) = 1 by decide), if_neg (show ¬ (2 : Int) = 3 by decide), HMID.out.symm, HK.out, hm]
  clear hw16 hm
  have c1 : W9.cell? ⟨bx, 1, none⟩ = some (.int .i64 at_) := K9.out.cell 1
  have c0 : W9.cell? ⟨bx, 0, none⟩ = some (.int .i64 kd) := K9.out.cell 0
  have c2 : W9.cell? ⟨bx, 2, none⟩ = some (.string wd) := K9.out.cell 2
  have qb := K9.out.lt
  have hk := HK.out
  subst hk
  clear hmid
  go_wp2
  have HZ : ∀ k, Hid (((z.note ⟨2, at_, wd⟩).letters mid wd.data.toList k).l.length = z.l.length ∧ ((z.note ⟨2, at_, wd⟩).letters mid wd.data.toList k).xs.length ≤ z.xs.length + 3 * k ∧ ((z.note ⟨2, at_, wd⟩).letters mid wd.data.toList k).ps.length ≤ z.ps.length + k) := fun k => by
    obtain ⟨_, _, _, _, h5, h6, h7⟩ := Pil.letters_all (z.note ⟨2, at_, wd⟩) mid wd.data.toList k
    exact ⟨h5, h6, h7⟩
  have HNW : ∀ k, Hid (((z.note ⟨2, at_, wd⟩).letters mid wd.data.toList k).works = z.works) := fun k => (Pil.letters_all (z.note ⟨2, at_, wd⟩) mid wd.data.toList k).2.1
  have oL : W9.ownsRow B 3 1 (.slice LA z.l.length lc) z.l.length (z.l.map vInt) := H9.out.o 3 _ rfl
  have hLne : ∃ bl, LA = some ⟨bl, 0, none⟩ ∧ bl < W9.heap.size := by
    obtain ⟨u, hu⟩ := get_of_lt (l := z.l.map vInt) (k := 0) (by rw [List.length_map]; omega)
    obtain ⟨bl, e, _, hb, _⟩ := own_at oL hu
    exact ⟨bl, e, hb⟩
  obtain ⟨bl, rfl, hbl9⟩ := hLne
  clear oL c0 c1 c2 qb
  generalize hz9 : W9.heap.size = n9 at hbl9
  have z9 : n9 ≤ W9.heap.size := by omega
  clear hz9
  go_loopw [99] (fun i wr => ∃ (k : Nat) (X' P' : Value), k ≤ wd.size ∧ i = .int .i64 (k : Int) ∧ n9 ≤ wr.heap.size ∧ Hid (PilH wr B g p s ((z.note ⟨2, at_, wd⟩).letters mid wd.data.toList k) S8 M9 (.slice VA z.works.length vc) (.slice (some ⟨bl, 0, none⟩) z.l.length lc) X' P') ∧ Hid (Has wr bx 35 [.int .i64 2, .int .i64 at_, .string wd]) ∧ Hid (Below B W wr) ∧ Hid (Grown g W [.slice SA z.steps.length sc, .slice MA z.marks.length mc, .slice VA z.works.length vc, .slice (some ⟨bl, 0, none⟩) z.l.length lc, .slice XA z.xs.length xc, .slice PA z.ps.length pc] wr [S8, M9, .slice VA z.works.length vc, .slice (some ⟨bl, 0, none⟩) z.l.length lc, X', P'])) (fun i _ => wd.size - (intOf i).toNat)
  case atStart => exact ⟨0, _, _, Nat.zero_le _, rfl, z9, H9, K9, BLc, GG9⟩
  case round =>
    clear H9 K9 BLc z9 GG9
    obtain ⟨k, X', P', hk, rfl, z9, HP, HB, BL, GG⟩ := hrel
    obtain ⟨wo, rfl⟩ : ∃ wo : World, wo = wr := ⟨_, rfl⟩
    have c2 : wo.cell? ⟨bx, 2, none⟩ = some (.string wd) := HB.out.cell 2
    have c1 : wo.cell? ⟨bx, 1, none⟩ = some (.int .i64 at_) := HB.out.cell 1
    have qb := HB.out.lt
    by_cases hlj : k < wd.size
    · have hget : wd.data.toList[k]? = some wd[k] := by
        rw [Array.getElem?_toList]
        exact Array.getElem?_eq_getElem hlj
      have hlet : isLet wd[k] = true := (List.all_eq_true.1 hform.out) _ (mem_of_get hget)
      have jm : (k : Int) < (wd.size : Int) := by omega
      have HLE := Lib.hid (Pil.letters_succ (z := z.note ⟨2, at_, wd⟩) (mid := mid) hget)
      obtain ⟨y1, y2, y3⟩ := (HZ k).out
      by_cases hc : wd[k] = 80
      · have hc2 : ((wd[k].toNat : Int) == 80) = true := by rw [hc]; rfl
        have HLE2 : Hid ((z.note ⟨2, at_, wd⟩).letters mid wd.data.toList (k + 1) = ((z.note ⟨2, at_, wd⟩).letters mid wd.data.toList k).stick mid false) := by
          show _ = _
          rw [HLE.out]
          unfold Pil.letter
          rw [if_pos hc]
        have J := Lib.hid (stickC B g p s _ _ _ _ _ _ _ mid false wo HP.out (by rw [y1]; exact hlen.1) (by rw [y1]; exact hlen.2) (by omega))
        obtain ⟨PA2, pc2, rfl⟩ := own_form (show wo.ownsRow B 91 6 P' ((z.note ⟨2, at_, wd⟩).letters mid wd.data.toList k).ps.length (pnsC ((z.note ⟨2, at_, wd⟩).letters mid wd.data.toList k).ps) from HP.out.o 5 _ rfl)
        clear hget hlet hc y1 y2 y3
        go_wp2_with fail
        refine J.out.mono ?_
        rintro e w7 ⟨⟨v, rfl⟩, P7, h7, k7, gg7⟩
        have GG7 := Lib.hid (GG.out.trans gg7)
        clear gg7 GG
        have o7 : wo.ownsRow B 91 6 (.slice PA2 ((z.note ⟨2, at_, wd⟩).letters mid wd.data.toList k).ps.length pc2) ((z.note ⟨2, at_, wd⟩).letters mid wd.data.toList k).ps.length (pnsC ((z.note ⟨2, at_, wd⟩).letters mid wd.data.toList k).ps) := HP.out.o 5 _ rfl
        have H7 := Lib.hid h7
        have B7 := Lib.hid (k7.has HB.out (fun e => by
          rcases e with e | e
          · exact NBX e
          · exact HB.out.ne_own o7 (show 35 ≠ 91 by decide) e.symm))
        have L7 := Lib.hid (BL.out.trans (k7.below (fun r hr => by
          rcases hr with rfl | hr
          · exact HP.out.b
          · exact (o7.lt r hr.symm).1) HP.out.z))
        have z7 : n9 ≤ w7.heap.size := Nat.le_trans z9 k7.size
        clear J HP HB BL h7 k7 o7 c1 c2 qb
        go_wp2
        go_roundw
        case rel => exact ⟨k + 1, X', P7, by omega, by go_num, z7, Lib.hid (by rw [HLE2.out]; exact H7.out), B7, L7, GG7⟩
        case measure => first | (simp [intOf]; done) | (simp [intOf]; omega)
      · have hc2 : ((wd[k].toNat : Int) == 80) = false := by
          rw [beq_eq_false_iff_ne]
          intro hh
          exact hc (UInt8.toNat_inj.1 (show wd[k].toNat = 80 by omega))
        obtain ⟨ns, hns⟩ : ∃ ns, ns = crW [wd[k]] 1 := ⟨_, rfl⟩
        have HLE2 : Hid ((z.note ⟨2, at_, wd⟩).letters mid wd.data.toList (k + 1) = ((z.note ⟨2, at_, wd⟩).letters mid wd.data.toList k).crosses mid ns ns.length) := by
          show _ = _
          rw [HLE.out]
          unfold Pil.letter
          rw [if_neg hc, hns]
        have i3 : IntKind.i64.wrap ((k : Int) + 1) = (k : Int) + 1 := IntWalk.i64_in _ (by omega)
        have i5 : (k : Int) + 1 ≤ (wd.size : Int) := by omega
        have SL := fun W => slice1 wd k hlj W
        obtain ⟨he1, he2⟩ := ext_ok hlj hlet
        have J := Lib.hid (crossings39o (wd.extract k (k + 1)) wo (by omega) he2)
        rw [he1, ext_one wd k hlj, ← hns] at J
        have HNS : Hid (ns.length ≤ 3 ∧ ∀ n ∈ ns, n ≠ 0 ∧ -3 ≤ n ∧ n ≤ 3) := by rw [hns]; exact ⟨crW_len _ 1, crL_mem _⟩
        clear hget hlet hc he1 he2 hns HLE
        go_wp2_with fail
        refine J.out.mono ?_
        rintro e w7 ⟨An, nn, cn, rfl, rn, ln, hb7⟩
        have HRN := Lib.hid (own_mono rn z9); clear rn
        have H7 := Lib.hid (RowsH.below HP.out hb7)
        have B7 := Lib.hid (HB.out.below hb7 HB.out.lt)
        have L7 := Lib.hid (BL.out.trans (hb7.mono HP.out.z))
        have z7 : n9 ≤ w7.heap.size := Nat.le_trans z9 hb7.size
        have GG7 := Lib.hid (GG.out.trans (Grown.below hb7))
        clear GG
        have HLN := Lib.hid ln
        have hnn3 : nn ≤ 3 := by rw [← ln]; exact HNS.out.1
        clear J HP HB BL c1 c2 qb SL i3 i5 hc2 hb7 ln
        go_wp2
        go_loopw [123] (fun i wr => ∃ (q : Nat) (X' : Value), q ≤ nn ∧ i = .int .i64 (q : Int) ∧ n9 ≤ wr.heap.size ∧ Hid (PilH wr B g p s (((z.note ⟨2, at_, wd⟩).letters mid wd.data.toList k).crosses mid ns q) S8 M9 (.slice VA z.works.length vc) (.slice (some ⟨bl, 0, none⟩) z.l.length lc) X' P') ∧ Hid (Has wr bx 35 [.int .i64 2, .int .i64 at_, .string wd]) ∧ Hid (wr.ownsRow n9 3 1 (.slice An nn cn) nn (ns.map vInt)) ∧ Hid (Below B W wr) ∧ Hid (Grown g W [.slice SA z.steps.length sc, .slice MA z.marks.length mc, .slice VA z.works.length vc, .slice (some ⟨bl, 0, none⟩) z.l.length lc, .slice XA z.xs.length xc, .slice PA z.ps.length pc] wr [S8, M9, .slice VA z.works.length vc, .slice (some ⟨bl, 0, none⟩) z.l.length lc, X', P'])) (fun i _ => nn - (intOf i).toNat)
        case atStart => exact ⟨0, X', Nat.zero_le _, rfl, z7, H7, B7, HRN, L7, GG7⟩
        case round =>
          clear H7 B7 HRN L7 z7 GG7
          obtain ⟨q, X', hq, rfl, z9, HP, HB, HRN, BL, GG⟩ := hrel
          obtain ⟨wo, rfl⟩ : ∃ wo : World, wo = wr := ⟨_, rfl⟩
          have c2 : wo.cell? ⟨bx, 2, none⟩ = some (.string wd) := HB.out.cell 2
          have qb := HB.out.lt
          by_cases hlq : q < nn
          · obtain ⟨u, hu⟩ := get_of_lt (l := ns) (k := q) (by rw [HLN.out]; exact hlq)
            obtain ⟨hu0, hu1, hu2⟩ := HNS.out.2 u (mem_of_get hu)
            obtain ⟨gn, rfl, hgn, hgn2, hcu⟩ := own_at HRN.out (j := q) (u := vInt u) (by rw [List.getElem?_map, hu]; rfl)
            obtain ⟨_, _, _, _, _, x6, x7⟩ := Pil.crosses_all ((z.note ⟨2, at_, wd⟩).letters mid wd.data.toList k) mid ns q
            have HCE := Lib.hid (Pil.crosses_succ (z := (z.note ⟨2, at_, wd⟩).letters mid wd.data.toList k) (mid := mid) hu)
            have qn : (q : Int) < (nn : Int) := by omega
            obtain ⟨t, ht⟩ : ∃ t : Nat, (mid : Int) - 2 + (if u < -u then -u else u) = (t : Int) := Int.eq_ofNat_of_zero_le (by split <;> omega)
            have HMA : Hid ((mkAt mid u).toNat = t) := by show _ = _; rw [show mkAt mid u = (t : Int) from ht]; rfl
            have ht48 : t + 1 < z.l.length := by split at ht <;> omega
            have j2 : IntKind.i64.wrap (-u) = -u := IntWalk.i64_in _ (by omega)
            have J := Lib.hid (fun left => crossC B g p s _ _ _ _ _ _ _ t left wo HP.out (by rw [x6, y1]; exact ht48) (by rw [x6, y1]; exact hlen.2) (by omega))
            by_cases hu3 : 0 < u
            · have d1 : decide (u < -u) = false := decide_eq_false (by omega)
              have d2 : decide (0 < u) = true := decide_eq_true hu3
              have HD2 := Lib.hid d2
              rw [if_neg (by omega)] at ht
              have j3 : IntKind.i64.wrap (2 * at_ + u) = 2 * at_ + u := IntWalk.i64_in _ (by omega)
              have j4 : IntKind.i64.wrap (2 * at_ + u - 1) = (t : Int) := by rw [IntWalk.i64_in _ (by omega)]; have := HMI.out; omega
              clear ht
              go_wp2_with fail
              refine (J.out true).mono ?_
              rintro e w8 ⟨⟨v8, rfl⟩, X8, h8, k8, gg8⟩
              have GG8 := Lib.hid (GG.out.trans gg8)
              clear gg8 GG
              have oL : wo.ownsRow B 3 1 (.slice (some ⟨bl, 0, none⟩) z.l.length lc) (((z.note ⟨2, at_, wd⟩).letters mid wd.data.toList k).crosses mid ns q).l.length ((((z.note ⟨2, at_, wd⟩).letters mid wd.data.toList k).crosses mid ns q).l.map vInt) := HP.out.o 3 _ rfl
              have oX : wo.ownsRow B 47 4 X' (((z.note ⟨2, at_, wd⟩).letters mid wd.data.toList k).crosses mid ns q).xs.length (qsC (((z.note ⟨2, at_, wd⟩).letters mid wd.data.toList k).crosses mid ns q).xs) := HP.out.o 4 _ rfl
              have H8 := Lib.hid h8
              have B8 := Lib.hid (k8.has HB.out (fun e => by
                rcases e with e | e | e
                · exact NBX e
                · exact HB.out.ne_own oL (show 35 ≠ 3 by decide) e.symm
                · exact HB.out.ne_own oX (show 35 ≠ 47 by decide) e.symm))
              have R8 := Lib.hid (k8.own HRN.out (fun r hr e => by
                obtain rfl : gn = r := by injection hr
                rcases e with e | e | e
                · exact HP.out.c.ne_own HRN.out (show 81 ≠ 3 by decide) (by rw [← e]; rfl)
                · have e : some gn = some bl := e
                  injection e with e; omega
                · exact own_apart HRN.out oX (show 3 ≠ 47 by decide) (b := gn) rfl e.symm))
              have L8 := Lib.hid (BL.out.trans (k8.below (fun r hr => by
                rcases hr with rfl | hr | hr
                · exact HP.out.b
                · exact (oL.lt r hr.symm).1
                · exact (oX.lt r hr.symm).1) HP.out.z))
              have z8 : n9 ≤ w8.heap.size := Nat.le_trans z9 k8.size
              clear J HP HB BL h8 k8 oL oX c2 qb hcu j2 j3 j4
              go_wp2
              go_roundw
              case rel => exact ⟨q + 1, X8, by omega, by go_num, z8, Lib.hid (by rw [HCE.out, HMA.out, HD2.out]; exact H8.out), B8, R8, L8, GG8⟩
              case measure => first | (simp [intOf]; done) | (simp [intOf]; omega)
            · have d1 : decide (u < -u) = true := decide_eq_true (by omega)
              have d2 : decide (0 < u) = false := decide_eq_false hu3
              have HD2 := Lib.hid d2
              rw [if_pos (by omega)] at ht
              have j3 : IntKind.i64.wrap (2 * at_ + -u) = 2 * at_ + -u := IntWalk.i64_in _ (by omega)
              have j4 : IntKind.i64.wrap (2 * at_ + -u - 1) = (t : Int) := by rw [IntWalk.i64_in _ (by omega)]; have := HMI.out; omega
              clear ht
              go_wp2_with fail
              refine (J.out false).mono ?_
              rintro e w8 ⟨⟨v8, rfl⟩, X8, h8, k8, gg8⟩
              have GG8 := Lib.hid (GG.out.trans gg8)
              clear gg8 GG
              have oL : wo.ownsRow B 3 1 (.slice (some ⟨bl, 0, none⟩) z.l.length lc) (((z.note ⟨2, at_, wd⟩).letters mid wd.data.toList k).crosses mid ns q).l.length ((((z.note ⟨2, at_, wd⟩).letters mid wd.data.toList k).crosses mid ns q).l.map vInt) := HP.out.o 3 _ rfl
              have oX : wo.ownsRow B 47 4 X' (((z.note ⟨2, at_, wd⟩).letters mid wd.data.toList k).crosses mid ns q).xs.length (qsC (((z.note ⟨2, at_, wd⟩).letters mid wd.data.toList k).crosses mid ns q).xs) := HP.out.o 4 _ rfl
              have H8 := Lib.hid h8
              have B8 := Lib.hid (k8.has HB.out (fun e => by
                rcases e with e | e | e
                · exact NBX e
                · exact HB.out.ne_own oL (show 35 ≠ 3 by decide) e.symm
                · exact HB.out.ne_own oX (show 35 ≠ 47 by decide) e.symm))
              have R8 := Lib.hid (k8.own HRN.out (fun r hr e => by
                obtain rfl : gn = r := by injection hr
                rcases e with e | e | e
                · exact HP.out.c.ne_own HRN.out (show 81 ≠ 3 by decide) (by rw [← e]; rfl)
                · have e : some gn = some bl := e
                  injection e with e; omega
                · exact own_apart HRN.out oX (show 3 ≠ 47 by decide) (b := gn) rfl e.symm))
              have L8 := Lib.hid (BL.out.trans (k8.below (fun r hr => by
                rcases hr with rfl | hr | hr
                · exact HP.out.b
                · exact (oL.lt r hr.symm).1
                · exact (oX.lt r hr.symm).1) HP.out.z))
              have z8 : n9 ≤ w8.heap.size := Nat.le_trans z9 k8.size
              clear J HP HB BL h8 k8 oL oX c2 qb hcu j2 j3 j4
              go_wp2
              go_roundw
              case rel => exact ⟨q + 1, X8, by omega, by go_num, z8, Lib.hid (by rw [HCE.out, HMA.out, HD2.out]; exact H8.out), B8, R8, L8, GG8⟩
              case measure => first | (simp [intOf]; done) | (simp [intOf]; omega)
          · obtain rfl : q = nn := by omega
            go_wp2
            go_roundw
            case rel => exact ⟨k + 1, X', P', by omega, by go_num, z9, Lib.hid (by rw [HLE2.out, HLN.out]; exact HP.out), HB, BL, GG⟩
            case measure => first | (simp [intOf]; done) | (simp [intOf]; omega)
    · obtain rfl : k = wd.size := by omega
      have hw0 := (HNW wd.size).out
      rw [← hw0] at HP
      clear hw0
      obtain ⟨zk, hzk⟩ : ∃ zk, zk = (z.note ⟨2, at_, wd⟩).letters mid wd.data.toList wd.size := ⟨_, rfl⟩
      rw [← hzk] at HP HST
      have hwz : zk.works.length = z.works.length := by rw [hzk, (HNW wd.size).out]
      have GGw : Hid (Grown g W [.slice SA z.steps.length sc, .slice MA z.marks.length mc, .slice VA z.works.length vc, .slice (some ⟨bl, 0, none⟩) z.l.length lc, .slice XA z.xs.length xc, .slice PA z.ps.length pc] wo [S8, M9, .slice VA zk.works.length vc, .slice (some ⟨bl, 0, none⟩) z.l.length lc, X', P']) := by rw [hwz]; exact GG
      clear GG hwz
      have hwk : zk.works.length ≤ 400 := by rw [hzk, (HNW wd.size).out]; exact hs3
      clear hzk HZ HNW
      go_wp2
      refine wp_region_noPanic ?_
      refine wp_region_B (fun b w' => w'.cell? ⟨bx, 1, none⟩ = some (.int .i64 at_) ∧ w'.cell? ⟨bx, 2, none⟩ = some (.string wd) ∧ (b = false → w'.cell? ⟨g, 5, none⟩ = some (.slice VA zk.works.length vc))) 14 (by kernel_rfl) ?_
      have hSSe : (fun b w' => w'.cell? ⟨bx, 1, none⟩ = some (.int .i64 at_) ∧ w'.cell? ⟨bx, 2, none⟩ = some (.string wd) ∧ (b = false → w'.cell? ⟨g, 5, none⟩ = some (.slice VA zk.works.length vc))) false (wo.drew) := ⟨(HB.out.drew).cell 1, (HB.out.drew).cell 2, fun _ => HP.out.c.drew.cell 5⟩
      refine wpAnyB_take (i := 0) (oi := _) (v := ?vve1) (fun w' => w'.cell? ⟨bx, 1, none⟩ = some (.int .i64 at_) ∧ w'.cell? ⟨bx, 2, none⟩ = some (.string wd)) rfl (by kernel_rfl) (by kernel_rfl) (by kernel_rfl) (by kernel_rfl) (by rfl) (fun _ h => ⟨h.1, h.2.1⟩) (.inl fun _ h => ⟨h.1, h.2.1⟩) (fun _ _ _ h => h) (.inl ⟨by rfl, ?hye1⟩) hSSe ?_
      case hye1 =>
        intro w' hSw
        try dsimp only at hSw
        go_simp
        all_goals with_reducible rfl
      try simp only [Act.put, List.setIfInBounds_toArray]
      refine wpAnyB_take (i := 1) (oi := _) (v := ?vve2) (fun w' => w'.cell? ⟨bx, 1, none⟩ = some (.int .i64 at_) ∧ w'.cell? ⟨bx, 2, none⟩ = some (.string wd)) rfl (by kernel_rfl) (by kernel_rfl) (by kernel_rfl) (by kernel_rfl) (by rfl) (fun _ h => ⟨h.1, h.2.1⟩) (.inl fun _ h => ⟨h.1, h.2.1⟩) (fun _ _ _ h => h) (.inl ⟨by rfl, ?hye2⟩) hSSe ?_
      case hye2 =>
        intro w' hSw
        try dsimp only at hSw
        go_simp
        all_goals with_reducible rfl
      try simp only [Act.put]
      refine wpAnyB_take (i := 2) (oi := _) (v := ?vve3) (fun w' => w'.cell? ⟨bx, 1, none⟩ = some (.int .i64 at_) ∧ w'.cell? ⟨bx, 2, none⟩ = some (.string wd)) rfl (by kernel_rfl) (by kernel_rfl) (by kernel_rfl) (by kernel_rfl) (by rfl) (fun _ h => ⟨h.1, h.2.1⟩) (.inl fun _ h => ⟨h.1, h.2.1⟩) (fun _ _ _ h => h) (.inl ⟨by rfl, ?hye3⟩) hSSe ?_
      case hye3 =>
        intro w' hSw
        try dsimp only at hSw
        go_simp
        all_goals with_reducible rfl
      try simp only [Act.put]
      refine wpAnyB_take (i := 3) (oi := _) (v := ?vve4) (fun w' => w'.cell? ⟨bx, 1, none⟩ = some (.int .i64 at_) ∧ w'.cell? ⟨bx, 2, none⟩ = some (.string wd)) rfl (by kernel_rfl) (by kernel_rfl) (by kernel_rfl) (by kernel_rfl) (by rfl) (fun _ h => ⟨h.1, h.2.1⟩) (.inl fun _ h => ⟨h.1, h.2.1⟩) (fun _ _ _ h => h) (.inl ⟨by rfl, ?hye4⟩) hSSe ?_
      case hye4 =>
        intro w' hSw
        try dsimp only at hSw
        go_simp
        all_goals with_reducible rfl
      try simp only [Act.put]
      refine wpAnyB_take (i := 4) (oi := _) (v := ?vve5) (fun w' => w'.cell? ⟨bx, 1, none⟩ = some (.int .i64 at_) ∧ w'.cell? ⟨bx, 2, none⟩ = some (.string wd) ∧ w'.cell? ⟨g, 5, none⟩ = some (.slice VA zk.works.length vc)) rfl (by kernel_rfl) (by kernel_rfl) (by kernel_rfl) (by kernel_rfl) (by rfl) (fun _ h => ⟨h.1, h.2.1, h.2.2 rfl⟩) (.inr (by kernel_rfl)) (fun _ _ _ h => h) (.inl ⟨by rfl, ?hye5⟩) hSSe ?_
      case hye5 =>
        intro w' hSw
        try dsimp only at hSw
        go_simp
        all_goals with_reducible rfl
      try simp only [Act.put]
      refine wpAnyB_take (i := 5) (oi := _) (v := ?vve6) (fun w' => w'.cell? ⟨bx, 1, none⟩ = some (.int .i64 at_) ∧ w'.cell? ⟨bx, 2, none⟩ = some (.string wd)) rfl (by kernel_rfl) (by kernel_rfl) (by kernel_rfl) (by kernel_rfl) (by rfl) (fun _ h => ⟨h.1, h.2.1⟩) (.inl fun _ h => ⟨h.1, h.2.1⟩) (fun _ _ _ h => h) (.inl ⟨by rfl, ?hye6⟩) hSSe ?_
      case hye6 =>
        intro w' hSw
        try dsimp only at hSw
        go_simp
        all_goals with_reducible rfl
      try simp only [Act.put]
      refine wpAnyB_take (i := 6) (oi := _) (v := ?vve7) (fun w' => w'.cell? ⟨bx, 1, none⟩ = some (.int .i64 at_) ∧ w'.cell? ⟨bx, 2, none⟩ = some (.string wd)) rfl (by kernel_rfl) (by kernel_rfl) (by kernel_rfl) (by kernel_rfl) (by rfl) (fun _ h => ⟨h.1, h.2.1⟩) (.inl fun _ h => ⟨h.1, h.2.1⟩) (fun _ _ _ h => h) (.inl ⟨by rfl, ?hye7⟩) hSSe ?_
      case hye7 =>
        intro w' hSw
        try dsimp only at hSw
        go_simp
        all_goals with_reducible rfl
      try simp only [Act.put]
      refine wpAnyB_take (i := 7) (oi := _) (v := ?vve8) (fun w' => w'.cell? ⟨bx, 1, none⟩ = some (.int .i64 at_) ∧ w'.cell? ⟨bx, 2, none⟩ = some (.string wd)) rfl (by kernel_rfl) (by kernel_rfl) (by kernel_rfl) (by kernel_rfl) (by rfl) (fun _ h => ⟨h.1, h.2.1⟩) (.inl fun _ h => ⟨h.1, h.2.1⟩) (fun _ _ _ h => h) (.inl ⟨by rfl, ?hye8⟩) hSSe ?_
      case hye8 =>
        intro w' hSw
        try dsimp only at hSw
        go_simp
        all_goals with_reducible rfl
      try simp only [Act.put]
      refine wpAnyB_take (i := 8) (oi := _) (v := ?vve9) (fun w' => w'.cell? ⟨bx, 1, none⟩ = some (.int .i64 at_) ∧ w'.cell? ⟨bx, 2, none⟩ = some (.string wd)) rfl (by kernel_rfl) (by kernel_rfl) (by kernel_rfl) (by kernel_rfl) (by rfl) (fun _ h => ⟨h.1, h.2.1⟩) (.inl fun _ h => ⟨h.1, h.2.1⟩) (fun _ _ _ h => h) (.inl ⟨by rfl, ?hye9⟩) hSSe ?_
      case hye9 =>
        intro w' hSw
        try dsimp only at hSw
        go_simp
        all_goals with_reducible rfl
      try simp only [Act.put]
      refine wpAnyB_take (i := 9) (oi := _) (v := ?vve10) (fun w' => w'.cell? ⟨bx, 1, none⟩ = some (.int .i64 at_) ∧ w'.cell? ⟨bx, 2, none⟩ = some (.string wd)) rfl (by kernel_rfl) (by kernel_rfl) (by kernel_rfl) (by kernel_rfl) (by rfl) (fun _ h => ⟨h.1, h.2.1⟩) (.inl fun _ h => ⟨h.1, h.2.1⟩) (fun _ _ _ h => h) (.inl ⟨by rfl, ?hye10⟩) hSSe ?_
      case hye10 =>
        intro w' hSw
        try dsimp only at hSw
        go_simp
        all_goals with_reducible rfl
      try simp only [Act.put]
      refine wpAnyB_one (i := 10) false rfl (by kernel_rfl) (by kernel_rfl) ?_
      intro KK hKK
      go_simp
      have h2 : RowsH (wo.alloc (.cells #[.int .i64 1, .int .i64 at_, .string wd] 86)).drew B g 81 _ _ := (RowsH.below HP.out ((Below.refl _ wo).alloc (Nat.le_refl _) (.cells #[.int .i64 1, .int .i64 at_, .string wd] 86))).drew
      have K2 := (HB.out.alloc (.cells #[.int .i64 1, .int .i64 at_, .string wd] 86)).drew
      have hn2 : ∀ p u, ([.int .i64 1, .int .i64 at_, .string wd] : List Value)[p]? = some u → (wo.alloc (.cells #[.int .i64 1, .int .i64 at_, .string wd] 86)).drew.cell? ⟨wo.heap.size, p, none⟩ = some u := fun p u hu => ((Has.new (w := wo) (t := 86) (cs := [.int .i64 1, .int .i64 at_, .string wd]) rfl).drew.cell p).trans hu
      have B2 := (BL.out.alloc HP.out.z (.cells #[.int .i64 1, .int .i64 at_, .string wd] 86)).drew
      have D2 := ((Below.refl wo.heap.size wo).alloc (Nat.le_refl _) (.cells #[.int .i64 1, .int .i64 at_, .string wd] 86)).drew
      generalize (wo.alloc (.cells #[.int .i64 1, .int .i64 at_, .string wd] 86)).drew = W2 at *
      refine hKK.out _ _ ⟨(K2).cell 1, (K2).cell 2, fun _ => h2.c.cell 5⟩ ?_
      clear hKK KK
      try simp only [Act.put, List.setIfInBounds_toArray, List.set_cons_zero, List.set_cons_succ]
      refine wpAnyB_one (i := 11) false rfl (by kernel_rfl) (by kernel_rfl) ?_
      intro KK hKK
      refine step_appN rfl (.tmp 144) (.tmp 150) 22 rfl B 86 (.agg #[.int .i64 0, .int .i64 0, .string ⟨#[]⟩]) 3 32 Try.underlying22 infoWk16 rfl (by omega) (by omega) (.slice VA zk.works.length vc) zk.works.length (wksCells zk.works) rfl (h2.o 2 _ rfl) ⟨wo.heap.size, 0, none⟩ 1 1 [.int .i64 1, .int .i64 at_, .string wd] rfl rfl (fun j u hu => by rw [Addr.add_lit, Nat.zero_add]; exact hn2 j u hu) (by simp [Value.oneCell']) (by omega) h2.z ?_
      intro v' w4 hown4 hgrow4 hnil4 hor4
      obtain ⟨A4, c4, rfl⟩ := own_form hown4
      have h4c : Has w4 g 81 _ := h2.c.same (hgrow4.block _ h2.c.lt (fun e => h2.ne (i := 2) rfl e.symm))
      have K4 := K2.same (hgrow4.block _ K2.lt (fun e => K2.ne_own (h2.o 2 _ rfl) (show 35 ≠ 86 by decide) e.symm))
      have B4 := B2.grown hgrow4 h2.z (fun k hk => ((h2.o 2 _ rfl).lt k hk).1)
      refine hKK.out _ _ ⟨(K4).cell 1, (K4).cell 2, fun _ => h4c.cell 5⟩ ?_
      clear hKK KK
      try simp only [Act.put, List.setIfInBounds_toArray]
      refine wpAnyB_take (i := 12) (oi := _) (v := ?vve11) (fun w' => w'.cell? ⟨bx, 1, none⟩ = some (.int .i64 at_) ∧ w'.cell? ⟨bx, 2, none⟩ = some (.string wd)) rfl (by kernel_rfl) (by kernel_rfl) (by kernel_rfl) (by kernel_rfl) (by rfl) (fun _ h => ⟨h.1, h.2.1⟩) (.inl fun _ h => ⟨h.1, h.2.1⟩) (fun _ _ _ h => h) (.inl ⟨by rfl, ?hye11⟩) ⟨(K4).cell 1, (K4).cell 2, fun _ => h4c.cell 5⟩ ?_
      case hye11 =>
        intro w' hSw
        try dsimp only at hSw
        go_simp
        all_goals with_reducible rfl
      try simp only [Act.put]
      refine wpAnyB_take (i := 13) (oi := _) (v := ?vve12) (fun w' => w'.cell? ⟨bx, 1, none⟩ = some (.int .i64 at_) ∧ w'.cell? ⟨bx, 2, none⟩ = some (.string wd)) rfl (by kernel_rfl) (by kernel_rfl) (by kernel_rfl) (by kernel_rfl) (by rfl) (fun _ h => ⟨h.1, h.2.1⟩) (.inl fun _ h => ⟨h.1, h.2.1⟩) (fun _ _ _ h => h) (.inl ⟨by rfl, ?hye12⟩) ⟨(K4).cell 1, (K4).cell 2, fun _ => h4c.cell 5⟩ ?_
      case hye12 =>
        intro w' hSw
        try dsimp only at hSw
        go_simp
        all_goals with_reducible rfl
      try simp only [Act.put]
      refine wpAnyB_one (i := 14) true rfl (by kernel_rfl) (by kernel_rfl) ?_
      intro KK hKK
      have f4 := h4c.free 5
      have q4 := h4c.lt
      have s4 : w4.cell? ⟨g, 5, none⟩ = some (.slice VA zk.works.length vc) := h4c.cell 5
      go_simp
      refine hKK.out _ _ ⟨(K4.far (fun e => NBX e) 5 (.slice A4 (zk.works.length + 1) c4)).cell 1, (K4.far (fun e => NBX e) 5 (.slice A4 (zk.works.length + 1) c4)).cell 2, fun hh => by cases hh⟩ ?_
      clear hKK KK
      try simp only [Act.put, List.setIfInBounds_toArray, List.set_cons_zero, List.set_cons_succ]
      refine wpAnyB_done (by kernel_rfl) (NoPanic.normal ?_) _
      have h5 := RowsH.grow h2 (i := 2) rfl hgrow4 hown4 5 rfl
      have K5 := K4.far (fun e => NBX e) 5 (.slice A4 (zk.works.length + 1) c4)
      have B5 := B4.setCell (p := ⟨g, 5, none⟩) HP.out.b (.slice A4 (zk.works.length + 1) c4)
      have G5 : Grown g wo [S8, M9, (.slice VA zk.works.length vc), (.slice (some ⟨bl, 0, none⟩) z.l.length lc), X', P'] (w4.setCell ⟨g, 5, none⟩ (.slice A4 (zk.works.length + 1) c4)) [S8, M9, (.slice A4 (zk.works.length + 1) c4), (.slice (some ⟨bl, 0, none⟩) z.l.length lc), X', P'] := (Grown.below D2).trans (Grown.grow (i := 2) rfl hgrow4 hor4 5)
      have H6 : Hid (PilH (w4.setCell ⟨g, 5, none⟩ (.slice A4 (zk.works.length + 1) c4)) B g p s (z.step ⟨2, at_, wd⟩) S8 M9 (.slice A4 (zk.works.length + 1) c4) (.slice (some ⟨bl, 0, none⟩) z.l.length lc) X' P') := by
        show RowsH _ _ _ _ _ _
        rw [HST.out, rows_work zk _ S8 M9 (.slice VA zk.works.length vc)]
        exact h5
      have BLz := B5
      have GG6 := Lib.hid (GGw.out.trans G5)
      generalize hW6 : (w4.setCell ⟨g, 5, none⟩ (.slice A4 (zk.works.length + 1) c4)) = W6 at *
      clear h5 K5 B5 G5 GGw D2 hW6 HP HB h2 K2 B2 B4 h4c K4 hn2 hown4 hgrow4 hnil4 hor4 f4 q4 s4 hSSe
      go_wp2
      go_ret
      exact ⟨rfl, ⟨S8, M9, _, _, X', P', H6.out, GG6.out⟩, BLz⟩
end Go.Proofs.Ytaenafcecfdffaa
