/-
  The iterator cloth.crossings: each crossing with the threads in its places before it; the line follows.
-/
import Derived.Test.YtdimfbmbomgiaaaVG2
import Derived.Test.YtdimfbmbomgiaaaVG3
import Derived.RegionTactic
import Derived.Laws.Rows
import Derived.Laws.Tables
namespace Go.Proofs.Ytdimfbmbomgiaaa
open Go.RowKit
theorem roundI_any {P : Program} {l : Nat} {fn : FuncId} {tmps : Array Value} {assign body : Code} {w : World} {R : Ending → World → Prop} {n m : Nat} (h : RoundIn Fence.wide n P l fn tmps assign body w R) : RoundIn Fence.wide m P l fn tmps assign body w R :=
  ⟨h.1, fun c cs _ => h.2 c cs (fun d hd => by cases hd)⟩
theorem opI_round {P : Program} {ops : Array Oper} {Q : Exit → Act → World → Prop} {n i l : Nat} {o : Oper} {a : Act} {w : World} {K : Act → World → Prop} {fn : FuncId} {tmps : Array Value} {assign body : Code} {R : Ending → World → Prop}
    (hi : ops[i]? = some o) (hw : Region.wanted o (yielded ops a.tmps) = true) (hx : (execOp a.eval o).run P w = .ok (.round l fn tmps assign body) w)
    (hR : RoundIn Fence.wide 0 P l fn tmps assign body w R) (h : ∀ e w', R e w' → ∃ u, e = .returned u ∧ K (a.put o.dst u) w') : wpOpIn Fence.wide n P ops Q i K a w := by
  unfold wpOpIn
  simp only [hi]
  rw [if_pos hw]
  refine ⟨fun _ _ => trivial, ?_⟩
  rw [show Fence.wide.round = none from rfl, Oper.semAt_none, hx]
  refine ⟨fun h => by simp [Fence.wide] at h, RoundIn.mono (roundI_any hR) fun e w' he => ?_⟩
  obtain ⟨u, rfl, hk⟩ := h e w' he
  exact hk
def swapL (L : List Int) (x : Q4) : List Int := (L.set x.b.toNat (L.getD (x.b.toNat + 1) 0)).set (x.b.toNat + 1) (L.getD x.b.toNat 0)
/-- the line behind the first k crossings -/
def lineTo (xs : List Q4) (L : List Int) : Nat → List Int
  | 0 => L
  | k + 1 => match xs[k]? with
    | some x => swapL (lineTo xs L k) x
    | none => lineTo xs L k
abbrev Met := Q4 × Int × Int
def met (xs : List Q4) (L : List Int) (j : Nat) : Met := (xs.getD j ⟨0, 0, 0, 0⟩, (lineTo xs L j).getD (xs.getD j ⟨0, 0, 0, 0⟩).b.toNat 0, (lineTo xs L j).getD ((xs.getD j ⟨0, 0, 0, 0⟩).b.toNat + 1) 0)
def came (xs : List Q4) (L : List Int) (k : Nat) : List Met := (List.range k).map (met xs L)
def encM (p : Met) : Array Value := #[.agg #[.int .i64 p.1.a, .int .i64 p.1.b, .int .i64 p.1.c, .int .i64 p.1.d], .agg #[.int .i64 p.2.1, .int .i64 p.2.2]]
theorem cell_same {w w' : World} {a : Addr} (h : w'.heap[a.block]? = w.heap[a.block]?) : w'.cell? a = w.cell? a := by unfold World.cell?; rw [h]
theorem lineTo_len (xs : List Q4) (L : List Int) (k : Nat) : (lineTo xs L k).length = L.length := by
  induction k with
  | zero => rfl
  | succ k ih =>
    unfold lineTo
    split
    · unfold swapL; rw [List.length_set, List.length_set, ih]
    · exact ih
theorem came_succ (xs : List Q4) (L : List Int) (k : Nat) : came xs L (k + 1) = came xs L k ++ [met xs L k] := by simp [came, List.range_succ]
theorem came_len (xs : List Q4) (L : List Int) (k : Nat) : (came xs L k).length = k := by simp [came]
set_option maxRecDepth 100000 in
set_option maxHeartbeats 1000000 in
theorem iter64 (I Ix : List Met → World → Prop) (l dd bR : Nat) (rc0 rc1 : Loop) (bc bp gL n c _d _m w0 : Nat) (_t : Int) (A _B : Option Addr) (xs : List Q4) (L : List Int) (W : World)
    (hIc : ∀ pre V V', I pre V → KeepC gL V V' → KeepsOthers V V' → I pre V') (hl : l < W.heap.size) (hne : gL ≠ l) (hbc : bc < W.heap.size) (hbp : bp < W.heap.size) (nbc : bc ≠ l) (nbp : bp ≠ l) (nbc' : bc ≠ gL) (nbp' : bp ≠ gL)
    (h1 : W.cell? ⟨bc, 1, none⟩ = some (.slice A n c)) (h2 : W.cell? ⟨bp, 0, none⟩ = some (.pointer (some ⟨gL, 0, none⟩))) (hn : n ≤ 20000) (hL : L.length = 48) (hx : RdQ W w0 A xs) (hw0 : w0 ≤ W.heap.size) (hwl : w0 ≤ l) (hwg : w0 ≤ gL) (hxl : xs.length = n)
    (hr : ∀ x ∈ xs, 0 ≤ x.b ∧ x.b ≤ 46) (hG : Has W gL 109 (L.map vInt)) (h0 : Mid I l dd rc0 [] W)
    (hY : ∀ pre x W1, Mid I l dd rc0 pre W1 → YieldAt Fence.wide 0 Try.prog l (encM x) W1 fun e W' => (e = .returned (.bool true) ∧ Mid I l dd rc0 (pre ++ [x]) W' ∧ KeepBut l W1 W') ∨ (e = .returned (.bool false) ∧ Mid Ix l dd rc1 (pre ++ [x]) W' ∧ KeepBut2 l bR W1 W')) (nbR : bR < W.heap.size) (nR1 : gL ≠ bR) (nR2 : bp ≠ bR) :
    Calls Try.prog 75 #[.func (.yield l) #[] #[], .pointer (some ⟨bc, 0, none⟩), .pointer (some ⟨bp, 0, none⟩)] W fun e W' => (∃ v, e = .returned v) ∧ ((Mid I l dd rc0 (came xs L n) W') ∨ (∃ k, k ≤ n ∧ Mid Ix l dd rc1 (came xs L k) W')) := by
  have HX := Lib.hid hx; clear hx
  have HXL := Lib.hid hxl; clear hxl
  have HR := Lib.hid hr; clear hr
  have HY := Lib.hid hY; clear hY
  have HIc := Lib.hid hIc; clear hIc
  go_enter Try.func75, Try.ntmps75
  go_wp2
  go_loopw [9] (fun v wr => ∃ k : Nat, k ≤ n ∧ v = .int .i64 (k : Int) ∧ Mid I l dd rc0 (came xs L k) wr ∧ Has wr gL 109 ((lineTo xs L k).map vInt) ∧ W.heap.size ≤ wr.heap.size ∧ (∀ r, r < W.heap.size → r ≠ l → r ≠ gL → wr.heap[r]? = W.heap[r]?)) (fun v _ => n - (intOf v).toNat)
  case atStart => exact ⟨0, Nat.zero_le _, rfl, h0, hG, Nat.le_refl _, fun _ _ _ _ => rfl⟩
  case round =>
    clear h0 hG
    obtain ⟨k, hk, rfl, hM, hG, hsz, hkeep⟩ := hrel
    obtain ⟨wo, rfl⟩ : ∃ wo : World, wo = wr := ⟨_, rfl⟩
    have HM := Lib.hid hM; clear hM
    have HG := Lib.hid hG; clear hG
    have a1 : wo.cell? ⟨bc, 1, none⟩ = some (.slice A n c) := (cell_same (hkeep bc hbc nbc nbc')).trans h1
    have a2 : wo.cell? ⟨bp, 0, none⟩ = some (.pointer (some ⟨gL, 0, none⟩)) := (cell_same (hkeep bp hbp nbp nbp')).trans h2
    by_cases hlt : k < n
    · obtain ⟨x, hx⟩ := get_of_lt (l := xs) (k := k) (by rw [HXL.out]; exact hlt)
      obtain ⟨ba, o, rfl, hba, c0, c1, c2, c3⟩ := HX.out _ x hx
      obtain ⟨hb0, hb1⟩ := HR.out x (mem_of_get hx)
      have sba := hkeep ba (Nat.lt_of_lt_of_le hba hw0) (by omega) (by omega)
      have k0 := (cell_same (a := ⟨ba, o + k * 4, none⟩) sba).trans c0
      have k1 := (cell_same (a := ⟨ba, o + k * 4 + 1, none⟩) sba).trans c1
      have k2 := (cell_same (a := ⟨ba, o + k * 4 + 2, none⟩) sba).trans c2
      have k3 := (cell_same (a := ⟨ba, o + k * 4 + 3, none⟩) sba).trans c3
      obtain ⟨i, hi⟩ := Int.eq_ofNat_of_zero_le hb0
      have hiT : i + 1 < 48 := by omega
      obtain ⟨va, hva⟩ := get_of_lt (l := lineTo xs L k) (k := i) (by rw [lineTo_len, hL]; omega)
      obtain ⟨vb, hvb⟩ := get_of_lt (l := lineTo xs L k) (k := i + 1) (by rw [lineTo_len, hL]; exact hiT)
      have g0 : wo.cell? ⟨gL, i, none⟩ = some (.int .i64 va) := (HG.out.cell i).trans (by rw [List.getElem?_map, hva]; rfl)
      have g1 : wo.cell? ⟨gL, i + 1, none⟩ = some (.int .i64 vb) := (HG.out.cell (i + 1)).trans (by rw [List.getElem?_map, hvb]; rfl)
      have hmet : met xs L k = (x, va, vb) := by
        unfold met
        have e1 : xs.getD k ⟨0, 0, 0, 0⟩ = x := by rw [List.getD_eq_getElem?_getD, hx]; rfl
        rw [e1, hi]
        have e2 : ((i : Nat) : Int).toNat = i := by simp
        rw [e2, List.getD_eq_getElem?_getD, List.getD_eq_getElem?_getD, hva, hvb]; rfl
      rw [hi] at k1
      have HI := Lib.hid hi
      have HMET := Lib.hid hmet
      have HVA := Lib.hid hva
      have HVB := Lib.hid hvb
      have HXk := Lib.hid hx
      clear hx c0 c1 c2 c3 hi hmet hva hvb
      have i1 : IntKind.i64.wrap ((i : Int) + 1) = (i : Int) + 1 := IntWalk.i64_in _ (by omega)
      have i2 : ((i : Int) + 1).toNat = i + 1 := by omega
      have i3 : (0 : Int) ≤ (i : Int) + 1 := by omega
      have i4 : (i : Int) + 1 < 48 := by omega
      have i5 : (i : Int) < 48 := by omega
      have i6 : i < 48 := by omega
      have z1 : bc < wo.heap.size := by omega
      have z2 : bp < wo.heap.size := by omega
      have z3 := HG.out.lt
      have z4 : ba < wo.heap.size := by omega
      go_wp2
      have x0 : (wo.alloc (.cells #[.int .i64 x.a, .int .i64 (i : Int), .int .i64 x.c, .int .i64 x.d] 83)).cell? ⟨wo.heap.size, 0, none⟩ = some (.int .i64 x.a) := by go_simp
      have x1 : (wo.alloc (.cells #[.int .i64 x.a, .int .i64 (i : Int), .int .i64 x.c, .int .i64 x.d] 83)).cell? ⟨wo.heap.size, 1, none⟩ = some (.int .i64 (i : Int)) := by go_simp
      have x2 : (wo.alloc (.cells #[.int .i64 x.a, .int .i64 (i : Int), .int .i64 x.c, .int .i64 x.d] 83)).cell? ⟨wo.heap.size, 2, none⟩ = some (.int .i64 x.c) := by go_simp
      have x3 : (wo.alloc (.cells #[.int .i64 x.a, .int .i64 (i : Int), .int .i64 x.c, .int .i64 x.d] 83)).cell? ⟨wo.heap.size, 3, none⟩ = some (.int .i64 x.d) := by go_simp
      have hBW : Below wo.heap.size wo (wo.alloc (.cells #[.int .i64 x.a, .int .i64 (i : Int), .int .i64 x.c, .int .i64 x.d] 83)) := by go_grown
      have hKW : KeepsOthers wo (wo.alloc (.cells #[.int .i64 x.a, .int .i64 (i : Int), .int .i64 x.c, .int .i64 x.d] 83)) := KeepsOthers.alloc _ _
      have qx : wo.heap.size < (wo.alloc (.cells #[.int .i64 x.a, .int .i64 (i : Int), .int .i64 x.c, .int .i64 x.d] 83)).heap.size := by simp
      generalize (wo.alloc (.cells #[.int .i64 x.a, .int .i64 (i : Int), .int .i64 x.c, .int .i64 x.d] 83)) = W1 at *
      have G1 := Lib.hid (HG.out.below hBW z3)
      have M1 := Lib.hid (HM.out.go hKW (HIc.out _ _ _ HM.out.inv (KeepC.of_below hBW) hKW))
      have y0 := (hBW.cell (p := ⟨gL, i, none⟩) z3).trans g0
      have y1 := (hBW.cell (p := ⟨gL, i + 1, none⟩) z3).trans g1
      have y2 := (hBW.cell (p := ⟨bp, 0, none⟩) z2).trans a2
      refine wp_region_noPanic ?_
      refine wp_region_I (fun w' => w'.cell? ⟨wo.heap.size, 0, none⟩ = some (.int .i64 x.a) ∧ w'.cell? ⟨wo.heap.size, 1, none⟩ = some (.int .i64 (i : Int)) ∧ w'.cell? ⟨wo.heap.size, 2, none⟩ = some (.int .i64 x.c) ∧ w'.cell? ⟨wo.heap.size, 3, none⟩ = some (.int .i64 x.d) ∧ w'.cell? ⟨gL, i, none⟩ = some (.int .i64 va) ∧ w'.cell? ⟨gL, i + 1, none⟩ = some (.int .i64 vb) ∧ w'.cell? ⟨bp, 0, none⟩ = some (.pointer (some ⟨gL, 0, none⟩))) (by kernel_rfl) ?_
      have hSS : (fun w' => w'.cell? ⟨wo.heap.size, 0, none⟩ = some (.int .i64 x.a) ∧ w'.cell? ⟨wo.heap.size, 1, none⟩ = some (.int .i64 (i : Int)) ∧ w'.cell? ⟨wo.heap.size, 2, none⟩ = some (.int .i64 x.c) ∧ w'.cell? ⟨wo.heap.size, 3, none⟩ = some (.int .i64 x.d) ∧ w'.cell? ⟨gL, i, none⟩ = some (.int .i64 va) ∧ w'.cell? ⟨gL, i + 1, none⟩ = some (.int .i64 vb) ∧ w'.cell? ⟨bp, 0, none⟩ = some (.pointer (some ⟨gL, 0, none⟩))) W1.drew := ⟨x0, x1, x2, x3, y0, y1, y2⟩
      refine anyI_take (i := 0) (oi := _) (v := ?vvit0) rfl (by kernel_rfl) (by kernel_rfl) (by kernel_rfl) (fun _ _ _ h => h) (.inl ⟨by rfl, ?hyit0⟩) hSS ?_
      case hyit0 =>
        intro w' hSw
        try dsimp only at hSw
        go_simp
        all_goals with_reducible rfl
      try simp only [Act.put, List.setIfInBounds_toArray]
      refine anyI_take (i := 1) (oi := _) (v := ?vvit1) rfl (by kernel_rfl) (by kernel_rfl) (by kernel_rfl) (fun _ _ _ h => h) (.inl ⟨by rfl, ?hyit1⟩) hSS ?_
      case hyit1 =>
        intro w' hSw
        try dsimp only at hSw
        go_simp
        all_goals with_reducible rfl
      try simp only [Act.put]
      refine anyI_take (i := 2) (oi := _) (v := ?vvit2) rfl (by kernel_rfl) (by kernel_rfl) (by kernel_rfl) (fun _ _ _ h => h) (.inl ⟨by rfl, ?hyit2⟩) hSS ?_
      case hyit2 =>
        intro w' hSw
        try dsimp only at hSw
        go_simp
        all_goals with_reducible rfl
      try simp only [Act.put]
      refine anyI_take (i := 3) (oi := _) (v := ?vvit3) rfl (by kernel_rfl) (by kernel_rfl) (by kernel_rfl) (fun _ _ _ h => h) (.inl ⟨by rfl, ?hyit3⟩) hSS ?_
      case hyit3 =>
        intro w' hSw
        try dsimp only at hSw
        go_simp
        all_goals with_reducible rfl
      try simp only [Act.put]
      refine anyI_take (i := 4) (oi := _) (v := ?vvit4) rfl (by kernel_rfl) (by kernel_rfl) (by kernel_rfl) (fun _ _ _ h => h) (.inl ⟨by rfl, ?hyit4⟩) hSS ?_
      case hyit4 =>
        intro w' hSw
        try dsimp only at hSw
        go_simp
        all_goals with_reducible rfl
      try simp only [Act.put]
      refine anyI_take (i := 5) (oi := _) (v := ?vvit5) rfl (by kernel_rfl) (by kernel_rfl) (by kernel_rfl) (fun _ _ _ h => h) (.inl ⟨by rfl, ?hyit5⟩) hSS ?_
      case hyit5 =>
        intro w' hSw
        try dsimp only at hSw
        go_simp
        all_goals with_reducible rfl
      try simp only [Act.put]
      refine anyI_take (i := 6) (oi := _) (v := ?vvit6) rfl (by kernel_rfl) (by kernel_rfl) (by kernel_rfl) (fun _ _ _ h => h) (.inl ⟨by rfl, ?hyit6⟩) hSS ?_
      case hyit6 =>
        intro w' hSw
        try dsimp only at hSw
        go_simp
        all_goals with_reducible rfl
      try simp only [Act.put]
      refine anyI_take (i := 7) (oi := _) (v := ?vvit7) rfl (by kernel_rfl) (by kernel_rfl) (by kernel_rfl) (fun _ _ _ h => h) (.inl ⟨by rfl, ?hyit7⟩) hSS ?_
      case hyit7 =>
        intro w' hSw
        try dsimp only at hSw
        go_simp
        all_goals with_reducible rfl
      try simp only [Act.put]
      refine anyI_take (i := 8) (oi := _) (v := ?vvit8) rfl (by kernel_rfl) (by kernel_rfl) (by kernel_rfl) (fun _ _ _ h => h) (.inl ⟨by rfl, ?hyit8⟩) hSS ?_
      case hyit8 =>
        intro w' hSw
        try dsimp only at hSw
        go_simp
        all_goals with_reducible rfl
      try simp only [Act.put]
      refine anyI_take (i := 9) (oi := _) (v := ?vvit9) rfl (by kernel_rfl) (by kernel_rfl) (by kernel_rfl) (fun _ _ _ h => h) (.inl ⟨by rfl, ?hyit9⟩) hSS ?_
      case hyit9 =>
        intro w' hSw
        try dsimp only at hSw
        go_simp
        all_goals with_reducible rfl
      try simp only [Act.put]
      refine anyI_take (i := 10) (oi := _) (v := ?vvit10) rfl (by kernel_rfl) (by kernel_rfl) (by kernel_rfl) (fun _ _ _ h => h) (.inl ⟨by rfl, ?hyit10⟩) hSS ?_
      case hyit10 =>
        intro w' hSw
        try dsimp only at hSw
        go_simp
        all_goals with_reducible rfl
      try simp only [Act.put]
      refine anyI_take (i := 11) (oi := _) (v := ?vvit11) rfl (by kernel_rfl) (by kernel_rfl) (by kernel_rfl) (fun _ _ _ h => h) (.inl ⟨by rfl, ?hyit11⟩) hSS ?_
      case hyit11 =>
        intro w' hSw
        try dsimp only at hSw
        go_simp
        all_goals with_reducible rfl
      try simp only [Act.put]
      refine anyI_take (i := 12) (oi := _) (v := ?vvit12) rfl (by kernel_rfl) (by kernel_rfl) (by kernel_rfl) (fun _ _ _ h => h) (.inl ⟨by rfl, ?hyit12⟩) hSS ?_
      case hyit12 =>
        intro w' hSw
        try dsimp only at hSw
        go_simp
        all_goals with_reducible rfl
      try simp only [Act.put]
      refine anyI_take (i := 13) (oi := _) (v := ?vvit13) rfl (by kernel_rfl) (by kernel_rfl) (by kernel_rfl) (fun _ _ _ h => h) (.inl ⟨by rfl, ?hyit13⟩) hSS ?_
      case hyit13 =>
        intro w' hSw
        try dsimp only at hSw
        go_simp
        all_goals with_reducible rfl
      try simp only [Act.put]
      refine anyI_take (i := 14) (oi := _) (v := ?vvit14) rfl (by kernel_rfl) (by kernel_rfl) (by kernel_rfl) (fun _ _ _ h => h) (.inl ⟨by rfl, ?hyit14⟩) hSS ?_
      case hyit14 =>
        intro w' hSw
        try dsimp only at hSw
        go_simp
        all_goals with_reducible rfl
      try simp only [Act.put]
      refine anyI_take (i := 15) (oi := _) (v := ?vvit15) rfl (by kernel_rfl) (by kernel_rfl) (by kernel_rfl) (fun _ _ _ h => h) (.inl ⟨by rfl, ?hyit15⟩) hSS ?_
      case hyit15 =>
        intro w' hSw
        try dsimp only at hSw
        go_simp
        all_goals with_reducible rfl
      try simp only [Act.put]
      have hYk := HY.out _ (x, va, vb) W1.drew (M1.out.go (KeepsOthers.drew W1) (HIc.out _ _ _ M1.out.inv (KeepC.of_below (Below.refl _ W1)).drew (KeepsOthers.drew W1)))
      have eM : encM (x, va, vb) = #[.agg #[.int .i64 x.a, .int .i64 (i : Int), .int .i64 x.c, .int .i64 x.d], .agg #[.int .i64 va, .int .i64 vb]] := by rw [← HI.out]; rfl
      rw [eM] at hYk
      clear eM
      unfold YieldAt at hYk
      obtain ⟨fn, tmps, assign, body, hy, hR⟩ := hYk
      have HRR := Lib.hid hR
      clear hR
      refine anyI_one (i := 16) rfl (by kernel_rfl) ?_
      refine opI_round (o := { dst := some 29, op := .call { callee := .value (.tmp 13), args := #[.tmp 14, .tmp 28], argTypes := #[83, 119] }, type := 4, pos := "cloth.go:68", after := #[{ on := 0, ground := .data }, { on := 1, ground := .data }, { on := 15, ground := .data }], guard := none }) (l := l) (fn := fn) (tmps := tmps) (assign := assign) (body := body) rfl (by rfl) ?_ HRR.out ?_
      · go_simp
      · rintro e w3 (⟨rfl, hM3, hKB⟩ | ⟨rfl, hM3, hKB⟩)
        · have hold : ∀ r, r < W1.heap.size → r ≠ l → w3.heap[r]? = W1.heap[r]? := fun r hr hl => hKB.2 r hr hl
          have hk : ∀ r, r < W1.heap.size → r = wo.heap.size ∨ r = gL ∨ r = bp → w3.heap[r]? = W1.heap[r]? := fun r hr hx => hold r hr (by rcases hx with e | e | e <;> omega)
          have s0 := (cell_same (a := ⟨wo.heap.size, 0, none⟩) (hk wo.heap.size qx (.inl rfl))).trans x0
          have s1 := (cell_same (a := ⟨wo.heap.size, 1, none⟩) (hk wo.heap.size qx (.inl rfl))).trans x1
          have s2 := (cell_same (a := ⟨wo.heap.size, 2, none⟩) (hk wo.heap.size qx (.inl rfl))).trans x2
          have s3 := (cell_same (a := ⟨wo.heap.size, 3, none⟩) (hk wo.heap.size qx (.inl rfl))).trans x3
          have s4 := (cell_same (a := ⟨gL, i, none⟩) (hk gL G1.out.lt (.inr (.inl rfl)))).trans y0
          have s5 := (cell_same (a := ⟨gL, i + 1, none⟩) (hk gL G1.out.lt (.inr (.inl rfl)))).trans y1
          have s6 := (cell_same (a := ⟨bp, 0, none⟩) (hk bp (by omega) (.inr (.inr rfl)))).trans y2
          refine ⟨_, rfl, ⟨s0, s1, s2, s3, s4, s5, s6⟩, ?_⟩
          try simp only [Act.put]
          refine anyI_take (i := 17) (oi := _) (v := ?vvzt) rfl (by kernel_rfl) (by kernel_rfl) (by kernel_rfl) (fun _ _ _ h => h) (.inl ⟨by rfl, ?hyzt⟩) ⟨s0, s1, s2, s3, s4, s5, s6⟩ ?_
          case hyzt =>
            intro w' hSw
            try dsimp only at hSw
            go_simp
            all_goals with_reducible rfl
          simp only [Act.put, List.getElem_toArray, List.getElem_cons_succ, List.getElem_cons_zero, List.setIfInBounds_toArray, List.set_cons_zero, List.set_cons_succ]
          refine anyI_done (by kernel_rfl) (NoPanic.normal ?_) _
          have qx3 : wo.heap.size < w3.heap.size := Nat.lt_of_lt_of_le qx hKB.1
          have q3 : bp < w3.heap.size := by omega
          have q4 : gL < w3.heap.size := Nat.lt_of_lt_of_le G1.out.lt hKB.1
          have G3 : Has w3 gL 109 ((lineTo xs L k).map vInt) := G1.out.same (hk gL G1.out.lt (.inr (.inl rfl)))
          have ea : ((lineTo xs L k).map vInt)[i]? = some (.int .i64 va) := by rw [List.getElem?_map, HVA.out]; rfl
          have eb : ((lineTo xs L k).map vInt)[i + 1]? = some (.int .i64 vb) := by rw [List.getElem?_map, HVB.out]; rfl
          have HEA := Lib.hid ea; have HEB := Lib.hid eb; clear ea eb
          have HOLD := Lib.hid hold; clear hold hk hy
          have HKB := Lib.hid hKB; clear hKB
          have HKEEP := Lib.hid hkeep; clear hkeep
          clear x0 x1 x2 x3 y0 y1 y2 g0 g1 a1 a2 k0 k1 k2 k3
          go_wp2_with fail
          refine (swap65 gL i ((lineTo xs L k).map vInt) va vb w3 G3 hiT HEA.out HEB.out).mono ?_
          rintro e w4 ⟨⟨v, rfl⟩, hG4, hKC, hKO⟩
          go_wp2
          go_roundw
          case rel =>
            have hln : lineTo xs L (k + 1) = ((lineTo xs L k).set i vb).set (i + 1) va := by
              show (match xs[k]? with | some x => swapL (lineTo xs L k) x | none => lineTo xs L k) = _
              rw [HXk.out]
              show swapL (lineTo xs L k) x = _
              have e2 : ((i : Nat) : Int).toNat = i := by simp
              unfold swapL
              rw [HI.out, e2, List.getD_eq_getElem?_getD, List.getD_eq_getElem?_getD, HVA.out, HVB.out]; rfl
            refine ⟨k + 1, by omega, by go_num, ?_, ?_, ?_, ?_⟩
            · rw [came_succ, HMET.out]; exact hM3.go hKO (HIc.out _ _ _ hM3.inv hKC hKO)
            · rw [hln]; simpa only [List.map_set] using hG4
            · have h1 := hKC.size; have h2 := HKB.out.1; have h3 := hBW.size; have h4 : W1.drew.heap.size = W1.heap.size := rfl; omega
            · intro r hr hr1 hr2
              have hrw : r < wo.heap.size := by omega
              have hr3 : r < W1.heap.size := by omega
              have hr4 : r < w3.heap.size := by have := HKB.out.1; have h4 : W1.drew.heap.size = W1.heap.size := rfl; omega
              exact (hKC.same r hr4 hr2).trans ((HOLD.out r hr3 hr1).trans ((hBW.block r hrw).trans (HKEEP.out r hr hr1 hr2)))
          case measure => first | (simp [intOf]; done) | (simp [intOf]; omega)
        · have hk : ∀ r, r < W1.heap.size → r = wo.heap.size ∨ r = gL ∨ r = bp → w3.heap[r]? = W1.heap[r]? := fun r hr hx => hKB.2 r hr (by rcases hx with e | e | e <;> omega) (by rcases hx with e | e | e <;> omega)
          have s0 := (cell_same (a := ⟨wo.heap.size, 0, none⟩) (hk wo.heap.size qx (.inl rfl))).trans x0
          have s1 := (cell_same (a := ⟨wo.heap.size, 1, none⟩) (hk wo.heap.size qx (.inl rfl))).trans x1
          have s2 := (cell_same (a := ⟨wo.heap.size, 2, none⟩) (hk wo.heap.size qx (.inl rfl))).trans x2
          have s3 := (cell_same (a := ⟨wo.heap.size, 3, none⟩) (hk wo.heap.size qx (.inl rfl))).trans x3
          have s4 := (cell_same (a := ⟨gL, i, none⟩) (hk gL G1.out.lt (.inr (.inl rfl)))).trans y0
          have s5 := (cell_same (a := ⟨gL, i + 1, none⟩) (hk gL G1.out.lt (.inr (.inl rfl)))).trans y1
          have s6 := (cell_same (a := ⟨bp, 0, none⟩) (hk bp (by omega) (.inr (.inr rfl)))).trans y2
          refine ⟨_, rfl, ⟨s0, s1, s2, s3, s4, s5, s6⟩, ?_⟩
          try simp only [Act.put]
          refine anyI_take (i := 17) (oi := _) (v := ?vvzf) rfl (by kernel_rfl) (by kernel_rfl) (by kernel_rfl) (fun _ _ _ h => h) (.inl ⟨by rfl, ?hyzf⟩) ⟨s0, s1, s2, s3, s4, s5, s6⟩ ?_
          case hyzf =>
            intro w' hSw
            try dsimp only at hSw
            go_simp
            all_goals with_reducible rfl
          simp only [Act.put, List.getElem_toArray, List.getElem_cons_succ, List.getElem_cons_zero, List.setIfInBounds_toArray, List.set_cons_zero, List.set_cons_succ]
          refine anyI_done (by kernel_rfl) (NoPanic.normal ?_) _
          clear hk hy x0 x1 x2 x3 y0 y1 y2 g0 g1 a1 a2 k0 k1 k2 k3 hkeep
          go_wp2
          refine bodyPost_ret (results_none rfl _ _ _) rfl ?_
          exact ⟨⟨_, rfl⟩, .inr ⟨k + 1, by omega, by rw [came_succ, HMET.out]; exact hM3⟩⟩
    · --END
      obtain rfl : k = n := by omega
      go_wp2
      go_end0
      exact ⟨⟨_, rfl⟩, .inl HM.out⟩
end Go.Proofs.Ytdimfbmbomgiaaa
/-
  Contracts of cloth: in, begun, crossings; what the line before each crossing says of the document's ends.
-/
namespace Go.Proofs.Ytdimfbmbomgiaaa
open Go.RowKit
set_option maxRecDepth 100000 in
theorem in56 (x a b : Int) (r : Bool) (w : World) (h : (decide (a ≤ x) && decide (x ≤ b)) = r) :
    Calls Try.prog 71 #[.int .i64 x, .int .i64 a, .int .i64 b] w fun e w' => e = .returned (.bool r) ∧ w' = w := by
  subst h
  by_cases h1 : a ≤ x
  · by_cases h2 : x ≤ b
    · have d1 : decide (a ≤ x) = true := decide_eq_true h1
      have d2 : decide (x ≤ b) = true := decide_eq_true h2
      go_enter Try.func71, Try.ntmps71
      go_wp2
      go_ret
      exact ⟨ret_bool (by simp [d1, d2]), rfl⟩
    · have d1 : decide (a ≤ x) = true := decide_eq_true h1
      have d2 : decide (x ≤ b) = false := decide_eq_false h2
      go_enter Try.func71, Try.ntmps71
      go_wp2
      go_ret
      exact ⟨ret_bool (by simp), rfl⟩
  · have d1 : decide (a ≤ x) = false := decide_eq_false h1
    go_enter Try.func71, Try.ntmps71
    go_wp2
    go_ret
    exact ⟨ret_bool (by simp), rfl⟩
theorem lineL_set (k : Nat) (h : k < 48) : ((lineL k).map vInt ++ List.replicate (48 - k) (vInt 0)).set k (.int .i64 (k : Int)) = (lineL (k + 1)).map vInt ++ List.replicate (48 - (k + 1)) (vInt 0) := by
  have e : 48 - k = (48 - (k + 1)) + 1 := by omega
  rw [e, List.replicate_succ, List.set_append_right _ _ (by simp [lineL_len]), lineL_succ]
  simp [lineL_len]
theorem lineL_at (k : Nat) (h : k < 48) : ((lineL k).map vInt ++ List.replicate (48 - k) (vInt 0))[k]? = some (vInt 0) := by
  have e : 48 - k = (48 - (k + 1)) + 1 := by omega
  rw [e, List.replicate_succ, List.getElem?_append_right (by simp [lineL_len])]
  simp [lineL_len]
theorem Has.new2 {w : World} {o : Obj} {arr : Array Value} {t : TypeId} {cs : List Value} (h : arr = cs.toArray) : Has ((w.alloc o).alloc (.cells arr t)) (w.heap.size + 1) t cs := by
  have := Has.new (w := w.alloc o) (t := t) h
  rwa [World.size_alloc] at this
theorem Has.setRow {w : World} {g : Nat} {t : TypeId} {cs : List Value} (h : Has w g t cs) (ds : List Value) : Has (w.setRow g ds.toArray) g t ds := setRow_heap w g cs.toArray ds.toArray t _ h
theorem below_setRow {B : Nat} {a w : World} (h : Below B a w) {g : Nat} (hg : B ≤ g) (cs : Array Value) : Below B a (w.setRow g cs) :=
  ⟨h.os, h.tape, h.output, by simp; exact h.size, fun i hi => (setRow_other w g i cs (by omega)).trans (h.block i hi)⟩
set_option maxRecDepth 100000 in
theorem begun57 (w : World) : Calls Try.prog 62 #[] w fun e w' => e = .returned (.agg ((lineL 48).map vInt).toArray) ∧ Below w.heap.size w w' := by
  go_enter Try.func62, Try.ntmps62
  go_wp2
  go_loopw [3] (fun i wr => ∃ k : Nat, k ≤ 48 ∧ i = .int .i64 (k : Int) ∧ Has wr w.heap.size 109 (List.replicate 48 (vInt 0)) ∧ Has wr (w.heap.size + 1) 109 ((lineL k).map vInt ++ List.replicate (48 - k) (vInt 0)) ∧ Below w.heap.size w wr) (fun i _ => 48 - (intOf i).toNat)
  case atStart => exact ⟨0, Nat.zero_le _, rfl, (Has.new rfl).alloc _, Has.new2 rfl, by go_grown⟩
  case round =>
    obtain ⟨k, hk, rfl, hA, hB, hb⟩ := hrel
    obtain ⟨wo, rfl⟩ : ∃ wo : World, wo = wr := ⟨_, rfl⟩
    have HA := Lib.hid hA; clear hA
    have HB := Lib.hid hB; clear hB
    by_cases hlt : k < 48
    · have f1 := HB.out.free k
      have c1 : wo.cell? ⟨w.heap.size + 1, k, none⟩ = some (vInt 0) := (HB.out.cell k).trans (lineL_at k hlt)
      have q := HB.out.lt
      go_wp2
      go_roundw
      case rel =>
        refine ⟨k + 1, by omega, by go_num, HA.out.far (by omega) _ _, ?_, hb.setCell (by simp) _⟩
        have := HB.out.set k (.int .i64 (k : Int))
        rw [lineL_set k hlt] at this
        exact this
      case measure => first | (simp [intOf]; done) | (simp [intOf]; omega)
    · obtain rfl : k = 48 := by omega
      have hB' : Has wo (w.heap.size + 1) 109 ((lineL 48).map vInt) := by have := HB.out; simpa using this
      have hlen : ((lineL 48).map vInt).toArray.size = 48 := by simp [lineL_len]
      have hinfo : (Try.prog.info? 109).map (·.size) = some 48 := by kernel_rfl
      go_wp2_with (first
        | (refine wpList_load_row rfl 109 (.tmp 1) rfl (w.heap.size + 1) rfl 109 ((lineL 48).map vInt).toArray (0, 0) (.array 48 3) hB' (by kernel_rfl) rfl (by rw [hlen, hinfo]) ?_)
        | (refine wpList_store_row rfl 109 (.tmp 0) (.tmp 10) rfl w.heap.size ((lineL 48).map vInt).toArray rfl rfl 109 _ HA.out (by rw [hlen, hinfo]) (by rw [hlen]; rfl) (by simp [lineL]; intros; rfl) ?_))
      refine bodyPost_ret (v := .agg ((lineL 48).map vInt).toArray) (results_cell_row rfl _ _ w.heap.size 109 _ (0, 0) (.array 48 3) rfl (HA.out.setRow ((lineL 48).map vInt)) (by kernel_rfl) rfl (by rw [hlen, hinfo])) rfl ?_
      exact ⟨rfl, below_setRow hb (Nat.le_refl _) _⟩
theorem wpList_store_has {P : Program} {ops : Array Oper} {rest : List Oper} {o : Oper} {a : Act} {w : World} {Q : Exit → Act → World → Prop} (hgd : o.guard = none) (ty : TypeId) (x y : Operand) (ho : o.op = .store ty x y)
    (g : Nat) (cs : List Value) (hx : a.eval x = .pointer (some ⟨g, 0, none⟩)) (hy : a.eval y = .agg cs.toArray)
    (t : TypeId) (old : List Value) (hg : Has w g t old) (hi : (P.info? ty).map (·.size) = some cs.length)
    (hold : old.length = cs.length) (h1 : cs.all (·.oneCell') = true)
    (h : ∀ w2, Has w2 g t cs → But g w w2 → wpList P ops Q rest (a.put o.dst undef) w2) : wpList P ops Q (o :: rest) a w :=
  wpList_store_row hgd ty x y ho g cs.toArray hx hy t old.toArray hg (by simpa using hi) (by simpa using hold) (by simpa using h1) (h _ (hg.setRow cs) ⟨rfl, rfl, rfl, by simp, fun k _ hne => setRow_other w g k cs.toArray (fun e => hne (by rw [e]))⟩)
set_option maxRecDepth 100000 in
theorem crossings58 (cv : Value) (p : Option Addr) (t : Int) (A B : Option Addr) (n c m d : Nat) (w : World) (hcv : cv = vCloth t A n c B m d) :
    Calls Try.prog 72 #[cv, .pointer p] w fun e w' => e = .returned (.func (.func 75) #[] #[.pointer (some ⟨w.heap.size, 0, none⟩), .pointer (some ⟨w.heap.size + 1, 0, none⟩)]) ∧ w'.heap.size = w.heap.size + 2 ∧ Has w' w.heap.size 49 [.int .i64 t, .slice A n c, .slice B m d] ∧ Has w' (w.heap.size + 1) 114 [.pointer p] ∧ Below w.heap.size w w' := by
  subst hcv
  go_enter Try.func72, Try.ntmps72
  go_wp2
  go_ret
  exact ⟨rfl, by simp, (Has.new rfl).alloc _, Has.new2 rfl, by go_grown⟩
end Go.Proofs.Ytdimfbmbomgiaaa
/-
  Contracts: stitches.twists, letter by letter.
-/
namespace Go.Proofs.Ytdimfbmbomgiaaa
open Go.RowKit
/-- how often each place is crossed by a letter -/
def twV (c : UInt8) : List Int :=
  if c = 67 then [0, 1, 0]
  else if c = 84 then [-1, 0, -1]
  else if c = 76 then [-1, 0, 0]
  else if c = 82 then [0, 0, -1]
  else if c = 80 then [0, 0, 0]
  else if c = 99 then [0, -1, 0]
  else if c = 116 then [1, 0, 1]
  else if c = 108 then [1, 0, 0]
  else if c = 114 then [0, 0, 1]
  else [0, 0, 0]
set_option maxRecDepth 100000 in
theorem tw67 (w : World) : Calls Try.prog 74 #[.int .u8 67] w fun e w' => e = .returned (.agg #[.int .i64 0, .int .i64 1, .int .i64 0]) ∧ Below w.heap.size w w' := by
  have b0 : bits BinOp.or IntKind.u8 67 32 = 99 := by decide
  go_enter Try.func74, Try.ntmps74
  go_wp2
  refine bodyPost_ret (v := .agg #[.int .i64 0, .int .i64 1, .int .i64 0]) (results_cell_row rfl _ _ w.heap.size 120 _ (0, 0) (.array 3 3) rfl ((Has.new rfl).alloc _) (by kernel_rfl) rfl (by kernel_rfl)) rfl ?_
  exact ⟨rfl, by go_grown⟩
set_option maxRecDepth 100000 in
theorem tw84 (w : World) : Calls Try.prog 74 #[.int .u8 84] w fun e w' => e = .returned (.agg #[.int .i64 (-1), .int .i64 0, .int .i64 (-1)]) ∧ Below w.heap.size w w' := by
  have b0 : bits BinOp.or IntKind.u8 84 32 = 116 := by decide
  go_enter Try.func74, Try.ntmps74
  go_wp2
  refine bodyPost_ret (v := .agg #[.int .i64 (-1), .int .i64 0, .int .i64 (-1)]) (results_cell_row rfl _ _ w.heap.size 120 _ (0, 0) (.array 3 3) rfl ((Has.new rfl).alloc _) (by kernel_rfl) rfl (by kernel_rfl)) rfl ?_
  exact ⟨rfl, by go_grown⟩
set_option maxRecDepth 100000 in
theorem tw76 (w : World) : Calls Try.prog 74 #[.int .u8 76] w fun e w' => e = .returned (.agg #[.int .i64 (-1), .int .i64 0, .int .i64 0]) ∧ Below w.heap.size w w' := by
  have b0 : bits BinOp.or IntKind.u8 76 32 = 108 := by decide
  go_enter Try.func74, Try.ntmps74
  go_wp2
  refine bodyPost_ret (v := .agg #[.int .i64 (-1), .int .i64 0, .int .i64 0]) (results_cell_row rfl _ _ w.heap.size 120 _ (0, 0) (.array 3 3) rfl ((Has.new rfl).alloc _) (by kernel_rfl) rfl (by kernel_rfl)) rfl ?_
  exact ⟨rfl, by go_grown⟩
set_option maxRecDepth 100000 in
theorem tw82 (w : World) : Calls Try.prog 74 #[.int .u8 82] w fun e w' => e = .returned (.agg #[.int .i64 0, .int .i64 0, .int .i64 (-1)]) ∧ Below w.heap.size w w' := by
  have b0 : bits BinOp.or IntKind.u8 82 32 = 114 := by decide
  go_enter Try.func74, Try.ntmps74
  go_wp2
  refine bodyPost_ret (v := .agg #[.int .i64 0, .int .i64 0, .int .i64 (-1)]) (results_cell_row rfl _ _ w.heap.size 120 _ (0, 0) (.array 3 3) rfl ((Has.new rfl).alloc _) (by kernel_rfl) rfl (by kernel_rfl)) rfl ?_
  exact ⟨rfl, by go_grown⟩
set_option maxRecDepth 100000 in
theorem tw80 (w : World) : Calls Try.prog 74 #[.int .u8 80] w fun e w' => e = .returned (.agg #[.int .i64 0, .int .i64 0, .int .i64 0]) ∧ Below w.heap.size w w' := by
  have b0 : bits BinOp.or IntKind.u8 80 32 = 112 := by decide
  go_enter Try.func74, Try.ntmps74
  go_wp2
  refine bodyPost_ret (v := .agg #[.int .i64 0, .int .i64 0, .int .i64 0]) (results_cell_row rfl _ _ w.heap.size 120 _ (0, 0) (.array 3 3) rfl ((Has.new rfl).alloc _) (by kernel_rfl) rfl (by kernel_rfl)) rfl ?_
  exact ⟨rfl, by go_grown⟩
set_option maxRecDepth 100000 in
theorem tw99 (w : World) : Calls Try.prog 74 #[.int .u8 99] w fun e w' => e = .returned (.agg #[.int .i64 0, .int .i64 (-1), .int .i64 0]) ∧ Below w.heap.size w w' := by
  have b0 : bits BinOp.or IntKind.u8 99 32 = 99 := by decide
  go_enter Try.func74, Try.ntmps74
  go_wp2
  refine bodyPost_ret (v := .agg #[.int .i64 0, .int .i64 (-1), .int .i64 0]) (results_cell_row rfl _ _ w.heap.size 120 _ (0, 0) (.array 3 3) rfl ((Has.new rfl).alloc _) (by kernel_rfl) rfl (by kernel_rfl)) rfl ?_
  exact ⟨rfl, by go_grown⟩
set_option maxRecDepth 100000 in
theorem tw116 (w : World) : Calls Try.prog 74 #[.int .u8 116] w fun e w' => e = .returned (.agg #[.int .i64 1, .int .i64 0, .int .i64 1]) ∧ Below w.heap.size w w' := by
  have b0 : bits BinOp.or IntKind.u8 116 32 = 116 := by decide
  go_enter Try.func74, Try.ntmps74
  go_wp2
  refine bodyPost_ret (v := .agg #[.int .i64 1, .int .i64 0, .int .i64 1]) (results_cell_row rfl _ _ w.heap.size 120 _ (0, 0) (.array 3 3) rfl ((Has.new rfl).alloc _) (by kernel_rfl) rfl (by kernel_rfl)) rfl ?_
  exact ⟨rfl, by go_grown⟩
set_option maxRecDepth 100000 in
theorem tw108 (w : World) : Calls Try.prog 74 #[.int .u8 108] w fun e w' => e = .returned (.agg #[.int .i64 1, .int .i64 0, .int .i64 0]) ∧ Below w.heap.size w w' := by
  have b0 : bits BinOp.or IntKind.u8 108 32 = 108 := by decide
  go_enter Try.func74, Try.ntmps74
  go_wp2
  refine bodyPost_ret (v := .agg #[.int .i64 1, .int .i64 0, .int .i64 0]) (results_cell_row rfl _ _ w.heap.size 120 _ (0, 0) (.array 3 3) rfl ((Has.new rfl).alloc _) (by kernel_rfl) rfl (by kernel_rfl)) rfl ?_
  exact ⟨rfl, by go_grown⟩
set_option maxRecDepth 100000 in
theorem tw114 (w : World) : Calls Try.prog 74 #[.int .u8 114] w fun e w' => e = .returned (.agg #[.int .i64 0, .int .i64 0, .int .i64 1]) ∧ Below w.heap.size w w' := by
  have b0 : bits BinOp.or IntKind.u8 114 32 = 114 := by decide
  go_enter Try.func74, Try.ntmps74
  go_wp2
  refine bodyPost_ret (v := .agg #[.int .i64 0, .int .i64 0, .int .i64 1]) (results_cell_row rfl _ _ w.heap.size 120 _ (0, 0) (.array 3 3) rfl ((Has.new rfl).alloc _) (by kernel_rfl) rfl (by kernel_rfl)) rfl ?_
  exact ⟨rfl, by go_grown⟩
theorem let_cases {c : UInt8} (h : isLet c = true) : c = 67 ∨ c = 84 ∨ c = 76 ∨ c = 82 ∨ c = 80 ∨ c = 99 ∨ c = 116 ∨ c = 108 ∨ c = 114 := by
  unfold isLet letters at h
  simp at h
  exact h
theorem twV_len (c : UInt8) : (twV c).length = 3 := by
  unfold twV
  repeat' split
  all_goals rfl
theorem twists72 (c : UInt8) (h : isLet c = true) (w : World) : Calls Try.prog 74 #[.int .u8 c.toNat] w fun e w' => e = .returned (.agg ((twV c).map vInt).toArray) ∧ Below w.heap.size w w' := by
  rcases let_cases h with rfl | rfl | rfl | rfl | rfl | rfl | rfl | rfl | rfl
  · exact tw67 w
  · exact tw84 w
  · exact tw76 w
  · exact tw82 w
  · exact tw80 w
  · exact tw99 w
  · exact tw116 w
  · exact tw108 w
  · exact tw114 w
end Go.Proofs.Ytdimfbmbomgiaaa
/-
  Plain law: the line of 48 before each crossing says the same as the document's ends over the cloth's own threads.
-/
namespace Go.Proofs.Ytdimfbmbomgiaaa
open Go.RowKit
/-- a crossing came with the two threads that it names -/
def metOk (p : Met) : Bool := endOk p.2.1 p.2.2 p.1
theorem lineL_take (T : Nat) (h : T ≤ 48) : (lineL 48).take T = lineL T := by
  unfold lineL
  rw [← List.map_take, List.take_range]
  rw [Nat.min_eq_left h]
theorem lineTo_succ {xs : List Q4} {L : List Int} {k : Nat} {x : Q4} (h : xs[k]? = some x) : lineTo xs L (k + 1) = swapL (lineTo xs L k) x := by
  show (match xs[k]? with | some x => swapL (lineTo xs L k) x | none => lineTo xs L k) = _
  rw [h]
theorem endStep_line {L : List Int} {T : Nat} {x : Q4} (hT : T ≤ L.length) (hx : x.b.toNat + 1 < T) : endStep (L.take T) x = if endOk (L.getD x.b.toNat 0) (L.getD (x.b.toNat + 1) 0) x then some ((swapL L x).take T) else none := by
  have h0 : x.b.toNat < L.length := by omega
  have h1 : x.b.toNat + 1 < L.length := by omega
  have e0 : (L.take T)[x.b.toNat]? = some (L.getD x.b.toNat 0) := by
    rw [List.getElem?_take_of_lt (by omega), List.getD_eq_getElem?_getD, List.getElem?_eq_getElem h0]; rfl
  have e1 : (L.take T)[x.b.toNat + 1]? = some (L.getD (x.b.toNat + 1) 0) := by
    rw [List.getElem?_take_of_lt (by omega), List.getD_eq_getElem?_getD, List.getElem?_eq_getElem h1]; rfl
  rw [endStep_get rfl e0 e1]
  unfold swapL
  rw [List.take_set, List.take_set]
theorem met_get {xs : List Q4} {L : List Int} {k : Nat} {x : Q4} (h : xs[k]? = some x) : met xs L k = (x, (lineTo xs L k).getD x.b.toNat 0, (lineTo xs L k).getD (x.b.toNat + 1) 0) := by
  unfold met
  rw [List.getD_eq_getElem?_getD, h]; rfl
theorem ends_came (xs : List Q4) (T : Nat) (hT : T ≤ 48) (hx : ∀ x ∈ xs, 0 ≤ x.b ∧ x.b ≤ (T : Int) - 2) : ∀ k, k ≤ xs.length → (∀ p ∈ came xs (lineL 48) k, metOk p = true) → endsTo xs (lineL T) k = some ((lineTo xs (lineL 48) k).take T)
  | 0, _, _ => by show some _ = some _; rw [lineTo, lineL_take T hT]
  | k + 1, hk, h => by
    obtain ⟨x, hxk⟩ := get_of_lt (l := xs) (k := k) (by omega)
    have ih := ends_came xs T hT hx k (by omega) (fun p hp => h p (by rw [came_succ]; exact List.mem_append_left _ hp))
    have hb := hx x (mem_of_get hxk)
    have hm := h (met xs (lineL 48) k) (by rw [came_succ]; simp)
    rw [met_get hxk] at hm
    rw [endsTo_succ ih hxk, lineTo_succ hxk, endStep_line (by rw [lineTo_len, lineL_len]; exact hT) (by omega)]
    exact if_pos hm
theorem ends_ok {t : Int} {xs : List Q4} (h0 : 2 ≤ t) (ht : t ≤ 48) (hx : ∀ x ∈ xs, okC t x = true) (h : ∀ p ∈ came xs (lineL 48) xs.length, metOk p = true) : endsOk t xs = true := by
  unfold endsOk
  rw [ends_came xs t.toNat (by omega) (fun x hm => by have := hx x hm; unfold okC at this; simp at this; omega) _ (Nat.le_refl _) h]; rfl
theorem ends_bad {t : Int} {xs : List Q4} (h0 : 2 ≤ t) (ht : t ≤ 48) (hx : ∀ x ∈ xs, okC t x = true) {k : Nat} (hk : k ≤ xs.length) {ini : List Met} {last : Met} (hc : came xs (lineL 48) k = ini ++ [last]) (hi : ∀ p ∈ ini, metOk p = true) (hl : metOk last = false) : endsOk t xs = false := by
  obtain ⟨j, rfl⟩ : ∃ j, k = j + 1 := by
    cases k with
    | zero => simp [came] at hc
    | succ j => exact ⟨j, rfl⟩
  rw [came_succ] at hc
  obtain ⟨rfl, e5⟩ := List.append_inj' hc rfl
  obtain rfl : met xs (lineL 48) j = last := by simpa using e5
  obtain ⟨x, hxk⟩ := get_of_lt (l := xs) (k := j) (by omega)
  have hr : ∀ x ∈ xs, 0 ≤ x.b ∧ x.b ≤ (t.toNat : Int) - 2 := fun x hm => by have := hx x hm; unfold okC at this; simp at this; omega
  have ih := ends_came xs t.toNat (by omega) hr j (by omega) hi
  have hb := hr x (mem_of_get hxk)
  rw [met_get hxk] at hl
  have hn : endsTo xs (lineL t.toNat) (j + 1) = none := by
    rw [endsTo_succ ih hxk, endStep_line (by rw [lineTo_len, lineL_len]; omega) (by omega)]
    have hl2 : endOk ((lineTo xs (lineL 48) j).getD x.b.toNat 0) ((lineTo xs (lineL 48) j).getD (x.b.toNat + 1) 0) x = false := hl
    exact if_neg (by rw [hl2]; decide)
  unfold endsOk
  rw [endsTo_none hn _ hk]; rfl
theorem ownFrom_has {β : Type} {B g : Nat} {t : TypeId} {cs : List Value} (hg : g < B) : OwnFrom B (fun (_ : β) W => Has W g t cs) := fun _ _ _ _ hs hw hr => hs.same (hw.block g hs.lt (fun e => by have := (hr g e.symm).1; omega))
theorem postM_cell {P : Program} {fn : Func} {R : Ending → World → Prop} {tmps : Array Value} {w : World} {p : Tmp} {ty : TypeId} {g : Nat} {t : TypeId} {k : IntKind} {x : Int} (h : Has w g t [.int k x]) (hres : fn.results = #[.cell p ty])
    (hp : tmps.getD p undef = .pointer (some ⟨g, 0, none⟩)) (hu : ∀ w, (isAgg ty).run P w = .ok false w) (hR : R (.returned (.int k x)) w) : LeavesIn Fence.wide 0 P fn tmps R [] .returning w := by
  refine ⟨.int k x, ?_, hR⟩
  have hc := h.cell 0
  have hp' : tmps[p]?.getD undef = .pointer (some ⟨g, 0, none⟩) := by simpa using hp
  simp at hc
  simp [results, hres, hp', asAddr, loadVar, Sem.run_bind, hu, Result.andThen, go_sem, hc]
theorem below_put {B : Nat} {a w : World} (h : Below B a w) {D : Nat} (hD : B ≤ D) (o : Obj) : Below B a (w.putObj D o) :=
  ⟨h.os, h.tape, h.output, by simpa [World.putObj] using h.size, fun r hr => (World.putObj_heap_other (by omega)).trans (h.block r hr)⟩
theorem postM_ret {P : Program} {fn : Func} {R : Ending → World → Prop} {a : Act} {w : World} {p : Tmp} {ty : TypeId} {g : Nat} {t : TypeId} {k : IntKind} {x : Int} (h : Has w g t [.int k x]) (hres : fn.results = #[.cell p ty])
    (hp : a.tmps.getD p undef = .pointer (some ⟨g, 0, none⟩)) (hu : ∀ w, (isAgg ty).run P w = .ok false w) (hd : a.defers = []) (hR : R (.returned (.int k x)) w) : bodyPostM Fence.wide 0 P fn R .ret a w := by
  show LeavesInM Fence.wide 0 P fn a.tmps R a.defers .returning w
  rw [hd]
  exact postM_cell h hres hp hu hR
theorem postM_mark {P : Program} {fn : Func} {R : Ending → World → Prop} {a : Act} {w : World} {p : Tmp} {ty : TypeId} {g D : Nat} {t : TypeId} {k : IntKind} {x : Int} (h : Has w g t [.int k x]) (hres : fn.results = #[.cell p ty])
    (hp : a.tmps.getD p undef = .pointer (some ⟨g, 0, none⟩)) (hu : ∀ w, (isAgg ty).run P w = .ok false w) (hd : a.defers = [{ target := .collected D, args := #[] }]) (hD : w.heap[D]? = some (.deferred (some [])))
    (hR : R (.returned (.int k x)) (w.putObj D (.deferred none))) : bodyPostM Fence.wide 0 P fn R .ret a w := by
  show LeavesInM Fence.wide 0 P fn a.tmps R a.defers .returning w
  rw [hd]
  have hne : g ≠ D := by
    intro e; subst e; unfold Has at h; rw [h] at hD; cases hD
  refine ⟨by simp, .inl ⟨_, _, rfl, run_takeDeferred hD, ?_⟩⟩
  exact postM_cell (h.same (World.putObj_heap_other hne)) hres hp hu hR
end Go.Proofs.Ytdimfbmbomgiaaa
