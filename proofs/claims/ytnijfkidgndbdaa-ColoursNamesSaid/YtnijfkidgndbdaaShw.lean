/-
  Contract of chapter 21: colours.shows: for each thread the crossings at which it shows, rows of the call's own.
-/
import Derived.Test.YtnijfkidgndbdaaLru
namespace Go.Proofs.Ytnijfkidgndbdaa
open Go.RowKit
/-- the rows of the threads: what lies in the outer row, and that no two share a block -/
structure Rows54 (xs : List Q4) (g Tn j : Nat) (V : Nat → Value) (W : World) : Prop where
  has : Has W g 26 ((List.range Tn).map V)
  rows : ∀ q, q < Tn → W.ownsRow (g + 1) 3 1 (V q) (showsTo xs (q : Int) j).length ((showsTo xs (q : Int) j).map vInt)
  apart : ∀ q q', q < Tn → q' < Tn → q ≠ q' → ∀ b, (V q).ownBlock = some b → (V q').ownBlock ≠ some b
theorem Rows54.mono {xs : List Q4} {g Tn j : Nat} {V : Nat → Value} {W W' : World} (h : Rows54 xs g Tn j V W) (hb : Below W.heap.size W W') : Rows54 xs g Tn j V W' :=
  ⟨h.has.below hb h.has.lt, fun q hq => own_below (h.rows q hq) hb, h.apart⟩
theorem rows_get {V : Nat → Value} {Tn i : Nat} (h : i < Tn) : ((List.range Tn).map V)[i]? = some (V i) := by simp [h]
def updV (V : Nat → Value) (i : Nat) (v : Value) : Nat → Value := fun q => if q = i then v else V q
theorem updV_set {V : Nat → Value} {Tn i : Nat} {v : Value} : ((List.range Tn).map V).set i v = (List.range Tn).map (updV V i v) := by
  apply List.ext_getElem?
  intro k
  rw [List.getElem?_set]
  by_cases h : i = k
  · subst h
    by_cases hk : i < Tn <;> simp [hk, updV]
  · have h' : ¬ k = i := fun e => h e.symm
    by_cases hk : k < Tn <;> simp [h, h', hk, updV]
theorem Rows54.push {xs : List Q4} {g Tn j i : Nat} {V : Nat → Value} {W w4 : World} {v' : Value} {x : Q4} (h : Rows54 xs g Tn j V W) (hx : xs[j]? = some x) (hi : x.c = (i : Int)) (hiT : i < Tn)
    (hown : w4.ownsRow (g + 1) 3 1 v' ((showsTo xs (i : Int) j).length + 1) ((showsTo xs (i : Int) j).map vInt ++ [vInt (j : Int)])) (hgrow : W.grownBy w4 (V i).ownBlock) (hor : v'.ownBlock = (V i).ownBlock ∨ v'.ownBlock = some W.heap.size) :
    Rows54 xs g Tn (j + 1) (updV V i v') (w4.setCell ⟨g, i, none⟩ v') := by
  have hs : ∀ q : Nat, showsTo xs (q : Int) (j + 1) = if q = i then showsTo xs (q : Int) j ++ [(j : Int)] else showsTo xs (q : Int) j := fun q => by
    rw [showsTo_succ hx, hi]
    by_cases h : q = i
    · subst h; rw [if_pos rfl, if_pos rfl]
    · rw [if_neg h, if_neg (by omega)]
  refine ⟨?_, fun q hq => ?_, fun q q' hq hq' hne b hb => ?_⟩
  · rw [← updV_set]
    exact ((h.has.same (hgrow.block _ h.has.lt (fun e => h.has.ne_own (h.rows i hiT) (by decide) e.symm))).set i v')
  · rw [hs q]
    refine ownsRow_setCell_below ?_ (by simp) _
    by_cases hqi : q = i
    · subst hqi
      rw [if_pos rfl]
      have e : updV V q v' q = v' := by simp [updV]
      rw [e, List.length_append, List.map_append]
      exact hown
    · rw [if_neg hqi]
      have e : updV V i v' q = V q := by simp [updV, hqi]
      rw [e]
      refine (h.rows q hq).kept hgrow ?_
      cases hv : (V q).ownBlock with
      | none => exact .inl rfl
      | some b => exact .inr (fun e => h.apart q i hq hiT hqi b hv e.symm)
  · unfold updV at hb ⊢
    by_cases hqi : q = i
    · rw [if_pos hqi] at hb
      have hq'i : ¬ q' = i := fun e => hne (hqi.trans e.symm)
      rw [if_neg hq'i]
      rcases hor with hor | hor
      · rw [hor] at hb
        exact h.apart i q' hiT hq' (fun e => hq'i e.symm) b hb
      · rw [hor] at hb
        injection hb with hb
        intro e
        have := ((h.rows q' hq').lt b e).2
        omega
    · rw [if_neg hqi] at hb
      by_cases hq'i : q' = i
      · rw [if_pos hq'i]
        rcases hor with hor | hor
        · rw [hor]; exact h.apart q i hq hiT hqi b hb
        · rw [hor]
          intro e
          injection e with e
          have := ((h.rows q hq).lt b hb).2
          omega
      · rw [if_neg hq'i]
        exact h.apart q q' hq hq' hne b hb
theorem infoIs : (Try.prog.info? 26).map (fun i => (i.zero, i.size, i.bytes)) = some (some (.slice none 0 0), 1, 24) := by kernel_rfl
theorem mkIs (n : Nat) (_ : n ≤ 1000) (W : World) : (Instr.makeSlice 66 (.int .i64 (n : Int)) (.int .i64 (n : Int))).run Try.prog W = .ok (.slice (some ⟨W.heap.size, 0, none⟩) n n) (W.alloc (.cells (madeCells #[.slice none 0 0] n) 26)) := by
  obtain ⟨i, hi, hz, hs, hb⟩ := info_parts infoIs
  have h := run_make (P := Try.prog) W 66 26 i (.slice none 0 0) Try.underlying66 hi hz .i64 .i64 (n : Int) (n : Int) (by omega) (Int.le_refl _) (by rw [hb]; omega) (by omega)
  rw [hs] at h
  simpa [Value.cells] using h
set_option maxRecDepth 100000 in
set_option maxHeartbeats 4000000 in
theorem shows54 (Tn : Nat) (A B : Option Addr) (n c m d : Nat) (xs ps : List Q4) (w : World) (hx : RdQ w w.heap.size A xs) (hl : xs.length = n) (hck : ckE (Tn : Int) xs ps = 0) :
    Calls Try.prog 54 #[vCloth (Tn : Int) A n c B m d] w fun e w' => ∃ g V, e = .returned (.slice (some ⟨g, 0, none⟩) Tn Tn) ∧ Rows54 xs g Tn n V w' ∧ w.heap.size < g ∧ Below w.heap.size w w' := by
  have HX := Lib.hid hx; clear hx
  have HL := Lib.hid hl
  have hn2 : n ≤ 20000 := by have := (ckE_ok hck).2.2.1; rw [hl] at this; exact this
  have hTn : Tn ≤ 48 := by have := (ckE_ok hck).2.1; omega
  have HCR := Lib.hid (cross_ok hck)
  have hmk := mkIs Tn (by omega)
  clear hl hck
  go_enter Try.func54, Try.ntmps54
  go_wp2
  have hG0 : Rows54 xs (w.heap.size + 1) Tn 0 (fun _ => .slice none 0 0) ((w.alloc (.cells #[.int .i64 (Tn : Int), .slice A n c, .slice B m d] 25)).alloc (.cells (madeCells #[.slice none 0 0] Tn) 26)) :=
    ⟨Has.new2 (by rw [made_rep]; congr 1; apply List.ext_getElem?; intro q; rw [List.getElem?_replicate]; by_cases h : q < Tn <;> simp [h]), fun q _ => World.ownsRow_nil _ _ _ _, fun q q' _ _ _ b hb => by simp [Value.ownBlock] at hb⟩
  have hB0 : Below w.heap.size w ((w.alloc (.cells #[.int .i64 (Tn : Int), .slice A n c, .slice B m d] 25)).alloc (.cells (madeCells #[.slice none 0 0] Tn) 26)) := by go_grown
  have HG0 := Lib.hid hG0; have HB0 := Lib.hid hB0
  clear hG0 hB0 hmk
  obtain ⟨g, hg⟩ : ∃ g, g = w.heap.size + 1 := ⟨_, rfl⟩
  rw [← hg] at HG0 ⊢
  have hgw : w.heap.size < g := by omega
  clear hg
  go_loopw [12] (fun i wr => ∃ (j : Nat) (V : Nat → Value), j ≤ n ∧ i = .int .i64 (j : Int) ∧ Hid (Rows54 xs g Tn j V wr) ∧ Below w.heap.size w wr) (fun i _ => n - (intOf i).toNat)
  case atStart => exact ⟨0, _, Nat.zero_le _, rfl, HG0, HB0.out⟩
  case round =>
    clear HG0 HB0
    obtain ⟨j, V, hj, rfl, HG, hb⟩ := hrel
    obtain ⟨wo, rfl⟩ : ∃ wo : World, wo = wr := ⟨_, rfl⟩
    by_cases hlt : j < n
    · obtain ⟨x, hx⟩ := get_of_lt (l := xs) (k := j) (by rw [HL.out]; exact hlt)
      obtain ⟨ba, o, rfl, hba, c0, c1, c2, c3⟩ := (HX.out.below (B' := w.heap.size) hb (Nat.le_refl _)) _ x hx
      obtain ⟨⟨⟨hc0, hc1⟩, _⟩, _⟩ := HCR.out x (mem_of_get hx)
      obtain ⟨i, hi⟩ := Int.eq_ofNat_of_zero_le hc0
      have hiT : i < Tn := by omega
      have hiT' : (i : Int) < (Tn : Int) := by omega
      have hi0 : (0 : Int) ≤ (i : Int) := by omega
      have HXk := Lib.hid hx; have HI := Lib.hid hi
      rw [hi] at c2
      clear hx hi hc0 hc1
      obtain ⟨A', c', hVi⟩ := own_form (HG.out.rows i hiT)
      obtain ⟨li, hli⟩ : ∃ li, li = (showsTo xs (i : Int) j).length := ⟨_, rfl⟩
      rw [← hli] at hVi
      have hli2 : li ≤ 20000 := by have := showsTo_len xs (i : Int) j; omega
      have HVi := Lib.hid hVi; have HLi := Lib.hid hli
      clear hVi hli
      have qg := HG.out.has.lt
      go_wp2
      have hX1 : Has (wo.alloc (.cells #[.int .i64 x.a, .int .i64 x.b, .int .i64 (i : Int), .int .i64 x.d] 38)) wo.heap.size 38 [.int .i64 x.a, .int .i64 x.b, .int .i64 (i : Int), .int .i64 x.d] := Has.new rfl
      have hBW : Below wo.heap.size wo (wo.alloc (.cells #[.int .i64 x.a, .int .i64 x.b, .int .i64 (i : Int), .int .i64 x.d] 38)) := by go_grown
      generalize (wo.alloc (.cells #[.int .i64 x.a, .int .i64 x.b, .int .i64 (i : Int), .int .i64 x.d] 38)) = W1 at *
      have x2 : W1.cell? ⟨wo.heap.size, 2, none⟩ = some (.int .i64 (i : Int)) := hX1.cell 2
      have P1 : Hid (Rows54 xs g Tn j V W1) := HG.out.mono hBW
      have y0 : W1.cell? ⟨g, i, none⟩ = some (.slice A' li c') := (P1.out.has.cell i).trans ((rows_get hiT).trans (congrArg some HVi.out))
      have HX1 : Hid (Has W1 wo.heap.size 38 [.int .i64 x.a, .int .i64 x.b, .int .i64 (i : Int), .int .i64 x.d]) := hX1
      have HBB := Lib.hid (bvia hb hBW)
      have HRow : Hid (∀ W, Rows54 xs g Tn j V W → W.ownsRow (g + 1) 3 1 (.slice A' li c') li ((showsTo xs (i : Int) j).map vInt)) := fun W h => by
        have := h.rows i hiT
        rw [HVi.out, ← HLi.out] at this; exact this
      have HZ : Hid (g + 1 ≤ W1.heap.size) := by show g + 1 ≤ W1.heap.size; have := P1.out.has.lt; exact this
      clear hX1 hBW c0 c1 c2 c3
      refine wp_region_noPanic ?_
      refine wp_region_B (fun b w' => w'.cell? ⟨wo.heap.size, 2, none⟩ = some (.int .i64 (i : Int)) ∧ (b = false → w'.cell? ⟨g, i, none⟩ = some (.slice A' li c'))) 12 (by kernel_rfl) ?_
      have hSS : (fun b w' => w'.cell? ⟨wo.heap.size, 2, none⟩ = some (.int .i64 (i : Int)) ∧ (b = false → w'.cell? ⟨g, i, none⟩ = some (.slice A' li c'))) false (W1.drew) := ⟨x2, fun _ => y0⟩
      refine wpAnyB_take (i := 0) (oi := _) (v := ?vv1) (fun w' => w'.cell? ⟨wo.heap.size, 2, none⟩ = some (.int .i64 (i : Int))) rfl (by kernel_rfl) (by kernel_rfl) (by kernel_rfl) (by kernel_rfl) (by rfl) (fun _ h => h.1) (.inl fun _ h => h.1) (fun _ _ _ h => h) (.inl ⟨by rfl, ?hy1⟩) hSS ?_
      case hy1 =>
        intro w' hSw
        try dsimp only at hSw
        go_simp
        all_goals with_reducible rfl
      try simp only [Act.put, List.setIfInBounds_toArray, List.set_cons_zero, List.set_cons_succ]
      refine wpAnyB_take (i := 1) (oi := _) (v := ?vv2) (fun w' => w'.cell? ⟨wo.heap.size, 2, none⟩ = some (.int .i64 (i : Int))) rfl (by kernel_rfl) (by kernel_rfl) (by kernel_rfl) (by kernel_rfl) (by rfl) (fun _ h => h.1) (.inl fun _ h => h.1) (fun _ _ _ h => h) (.inl ⟨by rfl, ?hy2⟩) hSS ?_
      case hy2 =>
        intro w' hSw
        try dsimp only at hSw
        go_simp
        all_goals with_reducible rfl
      try simp only [Act.put, List.setIfInBounds_toArray, List.set_cons_zero, List.set_cons_succ]
      refine wpAnyB_take (i := 2) (oi := _) (v := ?vv3) (fun w' => w'.cell? ⟨wo.heap.size, 2, none⟩ = some (.int .i64 (i : Int))) rfl (by kernel_rfl) (by kernel_rfl) (by kernel_rfl) (by kernel_rfl) (by rfl) (fun _ h => h.1) (.inl fun _ h => h.1) (fun _ _ _ h => h) (.inl ⟨by rfl, ?hy3⟩) hSS ?_
      case hy3 =>
        intro w' hSw
        try dsimp only at hSw
        go_simp
        all_goals with_reducible rfl
      try simp only [Act.put, List.setIfInBounds_toArray, List.set_cons_zero, List.set_cons_succ]
      refine wpAnyB_take (i := 3) (oi := _) (v := ?vv4) (fun w' => w'.cell? ⟨wo.heap.size, 2, none⟩ = some (.int .i64 (i : Int))) rfl (by kernel_rfl) (by kernel_rfl) (by kernel_rfl) (by kernel_rfl) (by rfl) (fun _ h => h.1) (.inl fun _ h => h.1) (fun _ _ _ h => h) (.inl ⟨by rfl, ?hy4⟩) hSS ?_
      case hy4 =>
        intro w' hSw
        try dsimp only at hSw
        go_simp
        all_goals with_reducible rfl
      try simp only [Act.put, List.setIfInBounds_toArray, List.set_cons_zero, List.set_cons_succ]
      refine wpAnyB_take (i := 4) (oi := _) (v := ?vv5) (fun w' => w'.cell? ⟨wo.heap.size, 2, none⟩ = some (.int .i64 (i : Int))) rfl (by kernel_rfl) (by kernel_rfl) (by kernel_rfl) (by kernel_rfl) (by rfl) (fun _ h => h.1) (.inl fun _ h => h.1) (fun _ _ _ h => h) (.inl ⟨by rfl, ?hy5⟩) hSS ?_
      case hy5 =>
        intro w' hSw
        try dsimp only at hSw
        go_simp
        all_goals with_reducible rfl
      try simp only [Act.put, List.setIfInBounds_toArray, List.set_cons_zero, List.set_cons_succ]
      refine wpAnyB_take (i := 5) (oi := _) (v := ?vv6) (fun w' => w'.cell? ⟨wo.heap.size, 2, none⟩ = some (.int .i64 (i : Int))) rfl (by kernel_rfl) (by kernel_rfl) (by kernel_rfl) (by kernel_rfl) (by rfl) (fun _ h => h.1) (.inl fun _ h => h.1) (fun _ _ _ h => h) (.inl ⟨by rfl, ?hy6⟩) hSS ?_
      case hy6 =>
        intro w' hSw
        try dsimp only at hSw
        go_simp
        all_goals with_reducible rfl
      try simp only [Act.put, List.setIfInBounds_toArray, List.set_cons_zero, List.set_cons_succ]
      refine wpAnyB_take (i := 6) (oi := _) (v := ?vv7) (fun w' => w'.cell? ⟨wo.heap.size, 2, none⟩ = some (.int .i64 (i : Int))) rfl (by kernel_rfl) (by kernel_rfl) (by kernel_rfl) (by kernel_rfl) (by rfl) (fun _ h => h.1) (.inl fun _ h => h.1) (fun _ _ _ h => h) (.inl ⟨by rfl, ?hy7⟩) hSS ?_
      case hy7 =>
        intro w' hSw
        try dsimp only at hSw
        go_simp
        all_goals with_reducible rfl
      try simp only [Act.put, List.setIfInBounds_toArray, List.set_cons_zero, List.set_cons_succ]
      refine wpAnyB_take (i := 7) (oi := _) (v := ?vv8) (fun w' => w'.cell? ⟨wo.heap.size, 2, none⟩ = some (.int .i64 (i : Int)) ∧ w'.cell? ⟨g, i, none⟩ = some (.slice A' li c')) rfl (by kernel_rfl) (by kernel_rfl) (by kernel_rfl) (by kernel_rfl) (by rfl) (fun _ h => ⟨h.1, h.2 rfl⟩) (.inr (by kernel_rfl)) (fun _ _ _ h => h) (.inl ⟨by rfl, ?hy8⟩) hSS ?_
      case hy8 =>
        intro w' hSw
        try dsimp only at hSw
        go_simp
        all_goals with_reducible rfl
      try simp only [Act.put, List.setIfInBounds_toArray, List.set_cons_zero, List.set_cons_succ]
      refine wpAnyB_take (i := 8) (oi := _) (v := ?vv9) (fun w' => w'.cell? ⟨wo.heap.size, 2, none⟩ = some (.int .i64 (i : Int))) rfl (by kernel_rfl) (by kernel_rfl) (by kernel_rfl) (by kernel_rfl) (by rfl) (fun _ h => h.1) (.inl fun _ h => h.1) (fun _ _ _ h => h) (.inl ⟨by rfl, ?hy9⟩) hSS ?_
      case hy9 =>
        intro w' hSw
        try dsimp only at hSw
        go_simp
        all_goals with_reducible rfl
      try simp only [Act.put, List.setIfInBounds_toArray, List.set_cons_zero, List.set_cons_succ]
      refine wpAnyB_one (i := 9) false rfl (by kernel_rfl) (by kernel_rfl) ?_
      intro KK hKK
      go_simp
      have P2 := P1.out.mono (((Below.refl _ W1).alloc (Nat.le_refl _) (.cells #[.int .i64 (j : Int)] 3)).drew)
      have hX2 := (HX1.out.alloc (.cells #[.int .i64 (j : Int)] 3)).drew
      have hn2 : ∀ p u, [Value.int .i64 (j : Int)][p]? = some u → (W1.alloc (.cells #[.int .i64 (j : Int)] 3)).drew.cell? ⟨W1.heap.size, p, none⟩ = some u := news_new W1 (.int .i64 (j : Int)) 3
      have z2 : W1.heap.size + 1 = (W1.alloc (.cells #[.int .i64 (j : Int)] 3)).drew.heap.size := by show _ = (W1.alloc (.cells #[.int .i64 (j : Int)] 3)).heap.size; simp
      have B2 := (HBB.out.alloc HBB.out.size (.cells #[.int .i64 (j : Int)] 3)).drew
      have e2 := (P2.has.cell i).trans (rows_get hiT)
      rw [HVi.out] at e2
      generalize (W1.alloc (.cells #[.int .i64 (j : Int)] 3)).drew = W2 at *
      refine hKK.out _ _ ⟨hX2.cell 2, fun _ => e2⟩ ?_
      clear hKK KK
      try simp only [Act.put, List.setIfInBounds_toArray, List.set_cons_zero, List.set_cons_succ]
      refine wpAnyB_one (i := 10) false rfl (by kernel_rfl) (by kernel_rfl) ?_
      intro KK hKK
      refine step_appN rfl (.tmp 24) (.tmp 26) 26 rfl (g + 1) 3 (.int .i64 0) 1 8 Try.underlying26 infoInt rfl (by omega) (by omega) (.slice A' li c') li ((showsTo xs (i : Int) j).map vInt) rfl (HRow.out W2 P2) ⟨W1.heap.size, 0, none⟩ 1 1 [vInt (j : Int)] rfl rfl (fun j u hu => by rw [Addr.add_lit, Nat.zero_add]; exact hn2 j u hu) (one_int _ _) (by omega) (by have := HZ.out; omega) ?_
      intro v' w4 hown4 hgrow4 hnil4 hor4
      obtain ⟨A4, c4, rfl⟩ := own_form hown4
      have hX4 := hX2.same (hgrow4.block _ hX2.lt (fun e => hX2.ne_own (HRow.out W2 P2) (by decide) e.symm))
      have hG4 := P2.has.same (hgrow4.block _ P2.has.lt (fun e => P2.has.ne_own (HRow.out W2 P2) (by decide) e.symm))
      have e4 := (hG4.cell i).trans (rows_get hiT)
      rw [HVi.out] at e4
      refine hKK.out _ _ ⟨hX4.cell 2, fun _ => e4⟩ ?_
      clear hKK KK
      try simp only [Act.put, List.setIfInBounds_toArray, List.set_cons_zero, List.set_cons_succ]
      refine wpAnyB_take (i := 11) (oi := _) (v := ?vv10) (fun w' => w'.cell? ⟨wo.heap.size, 2, none⟩ = some (.int .i64 (i : Int))) rfl (by kernel_rfl) (by kernel_rfl) (by kernel_rfl) (by kernel_rfl) (by rfl) (fun _ h => h.1) (.inl fun _ h => h.1) (fun _ _ _ h => h) (.inl ⟨by rfl, ?hy10⟩) ⟨hX4.cell 2, fun _ => e4⟩ ?_
      case hy10 =>
        intro w' hSw
        try dsimp only at hSw
        go_simp
        all_goals with_reducible rfl
      try simp only [Act.put, List.setIfInBounds_toArray, List.set_cons_zero, List.set_cons_succ]
      refine wpAnyB_one (i := 12) true rfl (by kernel_rfl) (by kernel_rfl) ?_
      intro KK hKK
      have f4 := hG4.free i
      have q4 := hG4.lt
      go_simp
      refine hKK.out _ _ ⟨(hX4.far (b := g) (by omega) i (.slice A4 (li + 1) c4)).cell 2, fun hh => by cases hh⟩ ?_
      clear hKK KK
      try simp only [Act.put, List.setIfInBounds_toArray, List.set_cons_zero, List.set_cons_succ]
      refine wpAnyB_done (by kernel_rfl) (NoPanic.normal ?_) _
      have hPP := Rows54.push P2 HXk.out HI.out hiT (by rw [← HLi.out]; exact hown4) (by rw [HVi.out]; exact hgrow4) (by rw [HVi.out]; exact hor4)
      have HPP := Lib.hid hPP
      have hB4 : Below w.heap.size w w4 := B2.grown hgrow4 (by have := B2.size; exact this) (fun k hk => by have := ((HRow.out W2 P2).lt k hk).1; omega)
      clear hPP hown4 hgrow4 hnil4 hor4 hX4 hG4 e4 f4 q4 P2 hX2 hn2 z2 B2 e2
      go_wp2
      go_roundw
      case rel => exact ⟨j + 1, _, by omega, by go_num, HPP, hB4.setCell (by simp; omega) _⟩
      case measure => first | (simp [intOf]; done) | (simp [intOf]; omega)
    · obtain rfl : j = n := by omega
      go_wp2
      go_ret
      exact ⟨g, V, rfl, HG.out, hgw, hb⟩
end Go.Proofs.Ytnijfkidgndbdaa
