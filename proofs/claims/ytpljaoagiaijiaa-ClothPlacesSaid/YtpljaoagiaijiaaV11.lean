/-
  A range over cloth.crossings whose body writes into one captured block and makes rows of its own.
-/
import Derived.Test.YtpljaoagiaijiaaV4
import Derived.Test.YtpljaoagiaijiaaV5
import Derived.Test.YtpljaoagiaijiaaV9
import Derived.Test.YtpljaoagiaijiaaV10
namespace Go.Proofs.Ytpljaoagiaijiaa
open Go.RowKit
/-- what a round may change of the blocks that lay there before it: the loop's record, the block b, the blocks from w0 on that lay ahead of hi -/
def KeepF (l b w0 hi : Nat) (A B : World) : Prop := A.heap.size ≤ B.heap.size ∧ ∀ r, r < A.heap.size → r ≠ l → (r < w0 ∧ r ≠ b ∨ hi ≤ r) → B.heap[r]? = A.heap[r]?
theorem KeepF.trans {l b w0 hi : Nat} {A B C : World} (h : KeepF l b w0 hi A B) (k : KeepF l b w0 hi B C) : KeepF l b w0 hi A C :=
  ⟨Nat.le_trans h.1 k.1, fun r hr hl hx => (k.2 r (Nat.lt_of_lt_of_le hr h.1) hl hx).trans (h.2 r hr hl hx)⟩
theorem KeepF.put (l b w0 hi : Nat) (A : World) (o : Obj) : KeepF l b w0 hi A (A.putObj l o) :=
  ⟨Nat.le_of_eq (by simp [World.putObj]), fun r _ hl _ => World.putObj_heap_other hl⟩
theorem KeepF.of_below (l b w0 hi : Nat) {A B : World} (h : Below A.heap.size A B) : KeepF l b w0 hi A B := ⟨h.size, fun r hr _ _ => h.block r hr⟩
theorem range_lawF {P : Program} {n : Nat} {g : Operand} {ps : Array Tmp} {assign body : Code} {Q : Exit → Act → World → Prop} {a : Act} {w : World} {gf : Nat} {lb : Array Value}
    (hg : a.eval g = .func (.func gf) #[] lb) (eg : ∀ args w, (callFunc gf args).run P w = .ok (.enter gf args) w)
    {α : Type} (encs : α → Array Value) (hps : ∀ x, (encs x).size = ps.size)
    (I : Nat → List α → World → Prop) (S : List α → Prop) (Ok : List α → α → Prop) (b : Nat)
    (hI : ∀ hi, OwnFrom w.heap.size (I hi)) (h0 : I w.heap.size [] w)
    (hiter : ∀ (l d : Nat) (r0 : Loop) (W : World), w.heap.size ≤ d → d < l → KeepBut l w W → Mid (I w.heap.size) l d r0 [] W →
      (∀ hi pre x W1, Ok pre x → hi ≤ W1.heap.size → Mid (I hi) l d r0 pre W1 → YieldAt Fence.wide n P l (encs x) W1 fun e W' => e = .returned (.bool true) ∧ Mid (I W'.heap.size) l d r0 (pre ++ [x]) W' ∧ KeepF l b w.heap.size hi W1 W') →
      CallsIn Fence.wide n P gf (#[.func (.yield l) #[] #[]] ++ lb) W fun e W' => (∃ v, e = .returned v) ∧ (∃ hi xs, S xs ∧ Mid (I hi) l d r0 xs W'))
    (hround : ∀ (hi l : Nat) (pre : List α) (x : α) (W : World) (o : Obj), Ok pre x → w.heap.size < l → hi ≤ W.heap.size → I hi pre W → W.heap[l]? = some o → o.isCells = false →
      assign.wpIn (Fence.wide.inRound l) n P (Exit.then (fun a₁ W1 => KeepsOthers W W1 ∧ KeepF l b w.heap.size hi W W1 ∧ ∀ o', o'.isCells = false → body.wpIn (Fence.wide.inRound l) n P (fun e _ W3 => match e with
          | .normal => KeepsOthers (W1.putObj l o') W3 ∧ KeepF l b w.heap.size hi (W1.putObj l o') W3 ∧ I W3.heap.size (pre ++ [x]) W3
          | _ => False) a₁ (W1.putObj l o')) (fun _ _ _ => False)) { tmps := (ps.zip (encs x)).foldl (fun t (p, v) => t.setIfInBounds p v) a.tmps, defers := [] } W)
    (hdone : ∀ (D hi : Nat) (xs : List α) (W : World), w.heap.size ≤ D → S xs → I hi xs W → W.heap[D]? = some (.deferred (some [])) → Q .normal { a with defers := { target := .collected D, args := #[] } :: a.defers } W) :
    (Code.rangeFunc g ps assign body).wpIn Fence.wide n P Q a w := by
  refine wpIn_rangeFunc fun fn hfn => ?_
  obtain ⟨rc, hrc⟩ : ∃ rc : LoopState → Option Code → Loop, rc = fun st pe => { state := st, pending := pe, fn := fn, tmps := a.tmps, params := ps, assign := assign, body := body, defers := w.heap.size } := ⟨_, rfl⟩
  have hent := run_enterLoop_outer (P := P) (w := w) fn a.tmps ps assign body
  have hb1 : KeepBut (w.heap.size + 1) w ((w.alloc (.deferred (some []))).alloc (.loop (rc .ready none))) :=
    ⟨by simp; omega, fun r hr _ => (Below.heap_alloc _ _ r (by simp; omega)).trans (Below.heap_alloc w _ r hr)⟩
  have hL1 : ((w.alloc (.deferred (some []))).alloc (.loop (rc .ready none))).heap[w.heap.size + 1]? = some (.loop (rc .ready none)) := by
    have := World.alloc_heap_new (w.alloc (.deferred (some []))) (.loop (rc .ready none)); rwa [World.size_alloc] at this
  have hD1 : ((w.alloc (.deferred (some []))).alloc (.loop (rc .ready none))).heap[w.heap.size]? = some (.deferred (some [])) :=
    (Below.heap_alloc _ _ _ (by simp)).trans (World.alloc_heap_new w _)
  have hI1 : I w.heap.size [] ((w.alloc (.deferred (some []))).alloc (.loop (rc .ready none))) := (hI _).alloc _ ((hI _).alloc _ h0)
  refine ⟨w.heap.size + 1, [{ target := .collected w.heap.size, args := #[] }], ((w.alloc (.deferred (some []))).alloc (.loop (rc .ready none))), { target := .fn (.func gf) lb, args := #[.func (.yield (w.heap.size + 1)) #[] #[]] }, _, gf,
    #[.func (.yield (w.heap.size + 1)) #[] #[]] ++ lb, _, by rw [hrc]; exact hent, by simp only [resolve, hg]; simp [go_sem]; rfl, fun _ _ => trivial, by simp [invoke, go_sem, eg]; rfl, fun h => by simp [Fence.wide] at h, ?_⟩
  subst hrc
  refine callsIn_wide.2 (callsIn_wide.1 ((hiter (w.heap.size + 1) w.heap.size _ _ (Nat.le_refl _) (Nat.lt_succ_self _) hb1 ⟨hI1, hL1, hD1⟩ ?_).mono ?_))
  · rintro top pre x W hok htop ⟨hi, hl, hk⟩
    refine ⟨fn, _, assign, body, run_yield (P := P) (args := encs x) hl (hps x), roundIn_of_wpIn hfn ?_⟩
    refine wpIn_mono (hround top (w.heap.size + 1) pre x W _ hok (Nat.lt_succ_self _) htop hi hl rfl) ?_
    rintro e a1 W1 hp
    cases e with
    | normal =>
      obtain ⟨hko, hkb, hbd⟩ := hp
      have hl1 := hko.same _ _ hl rfl
      have hk1 := hko.same _ _ hk rfl
      have hlt := (Array.getElem?_eq_some_iff.1 hl1).1
      refine ⟨_, run_beginRound hl1 rfl, wpIn_mono (hbd _ rfl) ?_⟩
      rintro e a3 W3 hq
      cases e with
      | normal =>
        obtain ⟨hk3, hb3, hi3⟩ := hq
        have hl3 := hk3.same _ _ (World.putObj_heap_same hlt) rfl
        have hd3 := hk3.same _ _ ((World.putObj_heap_other (by omega)).trans hk1) rfl
        refine ⟨_, _, run_endRound none hl3, ⟨rfl, ⟨?_, World.putObj_heap_same (Array.getElem?_eq_some_iff.1 hl3).1, (World.putObj_heap_other (by omega)).trans hd3⟩, ?_⟩⟩
        · have hz : ∀ o, (W3.putObj (w.heap.size + 1) o).heap.size = W3.heap.size := fun o => by simp [World.putObj]
          rw [hz]
          exact (hI _).putObj _ hi3 (by omega) hl3 rfl
        · exact ((hkb.trans (KeepF.put _ _ _ _ _ _)).trans hb3).trans (KeepF.put _ _ _ _ _ _)
      | ret => exact hq.elim
      | exit id => exact hq.elim
      | goto t => exact hq.elim
      | panic ch => exact hq.elim
      | outgrown => exact hq.elim
    | ret => exact hp.elim
    | exit id => exact hp.elim
    | goto t => exact hp.elim
    | panic ch => exact hp.elim
    | outgrown => exact hp.elim
  · rintro e W2 ⟨⟨v, rfl⟩, ⟨hi, xs, hS, hm⟩⟩
    exact ⟨none, _, run_endLoop (P := P) hm.rec_ (by simp), hdone _ hi xs _ (Nat.le_refl _) hS ((hI _).putObj _ hm.inv (by omega) hm.rec_ rfl) ((World.putObj_heap_other (by omega)).trans hm.dfr)⟩
set_option maxRecDepth 100000 in
set_option maxHeartbeats 1000000 in
theorem iterF (I : Nat → List Met → World → Prop) (l dd bO : Nat) (rc0 : Loop) (bc bp gL n c w0 : Nat) (A : Option Addr) (xs : List Q4) (L : List Int) (W : World)
    (hIc : ∀ hi pre V V', I hi pre V → KeepC gL V V' → KeepsOthers V V' → I hi pre V') (hl : l < W.heap.size) (hbc : bc < w0) (hbp : bp < w0) (nbc' : bc ≠ gL) (nbp' : bp ≠ gL)
    (h1 : W.cell? ⟨bc, 1, none⟩ = some (.slice A n c)) (h2 : W.cell? ⟨bp, 0, none⟩ = some (.pointer (some ⟨gL, 0, none⟩))) (hn : n ≤ 20000) (hL : L.length = 48) (wA : Nat) (hx : RdQ W wA A xs) (hwA : wA ≤ w0) (hAg : wA ≤ gL) (hAO : wA ≤ bO) (hw0 : w0 ≤ W.heap.size) (hwl : w0 ≤ l) (hwg : gL < w0) (hxl : xs.length = n)
    (hr : ∀ x ∈ xs, 0 ≤ x.b ∧ x.b ≤ 46) (hG : Has W gL 74 (L.map vInt)) (h0 : Mid (I w0) l dd rc0 [] W)
    (hY : ∀ hi k W1, k < n → hi ≤ W1.heap.size → Mid (I hi) l dd rc0 (came xs L k) W1 → YieldAt Fence.wide 0 Try.prog l (encM (met xs L k)) W1 fun e W' => e = .returned (.bool true) ∧ Mid (I W'.heap.size) l dd rc0 (came xs L k ++ [met xs L k]) W' ∧ KeepF l bO w0 hi W1 W') (nO1 : gL ≠ bO) (nO2 : bp ≠ bO) (nO3 : bc ≠ bO) :
    Calls Try.prog 67 #[.func (.yield l) #[] #[], .pointer (some ⟨bc, 0, none⟩), .pointer (some ⟨bp, 0, none⟩)] W fun e W' => (∃ v, e = .returned v) ∧ ∃ hi, Mid (I hi) l dd rc0 (came xs L n) W' := by
  have HX := Lib.hid hx; clear hx
  have HXL := Lib.hid hxl; clear hxl
  have HR := Lib.hid hr; clear hr
  have HY := Lib.hid hY; clear hY
  have HIc := Lib.hid hIc; clear hIc
  go_enter Try.func67, Try.ntmps67
  go_wp2
  go_loopw [9] (fun v wr => ∃ hi k : Nat, k ≤ n ∧ v = .int .i64 (k : Int) ∧ hi ≤ wr.heap.size ∧ Mid (I hi) l dd rc0 (came xs L k) wr ∧ Has wr gL 74 ((lineTo xs L k).map vInt) ∧ W.heap.size ≤ wr.heap.size ∧ (∀ r, r < w0 → r ≠ bO → r ≠ gL → wr.heap[r]? = W.heap[r]?)) (fun v _ => n - (intOf v).toNat)
  case atStart => exact ⟨w0, 0, Nat.zero_le _, rfl, hw0, h0, hG, Nat.le_refl _, fun _ _ _ _ => rfl⟩
  case round =>
    clear h0 hG
    obtain ⟨hi, k, hk, rfl, hhi, hM, hG, hsz, hkeep⟩ := hrel
    obtain ⟨wo, rfl⟩ : ∃ wo : World, wo = wr := ⟨_, rfl⟩
    have HM := Lib.hid hM; clear hM
    have HG := Lib.hid hG; clear hG
    have a1 : wo.cell? ⟨bc, 1, none⟩ = some (.slice A n c) := (cell_same (hkeep bc hbc nO3 nbc')).trans h1
    have a2 : wo.cell? ⟨bp, 0, none⟩ = some (.pointer (some ⟨gL, 0, none⟩)) := (cell_same (hkeep bp hbp nO2 nbp')).trans h2
    by_cases hlt : k < n
    · obtain ⟨x, hx⟩ := get_of_lt (l := xs) (k := k) (by rw [HXL.out]; exact hlt)
      obtain ⟨ba, o, rfl, hba, c0, c1, c2, c3⟩ := HX.out _ x hx
      obtain ⟨hb0, hb1⟩ := HR.out x (mem_of_get hx)
      have sba := hkeep ba (by omega) (by omega) (by omega)
      have k0 := (cell_same (a := ⟨ba, o + k * 4, none⟩) sba).trans c0
      have k1 := (cell_same (a := ⟨ba, o + k * 4 + 1, none⟩) sba).trans c1
      have k2 := (cell_same (a := ⟨ba, o + k * 4 + 2, none⟩) sba).trans c2
      have k3 := (cell_same (a := ⟨ba, o + k * 4 + 3, none⟩) sba).trans c3
      obtain ⟨i, hie⟩ := Int.eq_ofNat_of_zero_le hb0
      have hiT : i + 1 < 48 := by omega
      obtain ⟨va, hva⟩ := get_of_lt (l := lineTo xs L k) (k := i) (by rw [lineTo_len, hL]; omega)
      obtain ⟨vb, hvb⟩ := get_of_lt (l := lineTo xs L k) (k := i + 1) (by rw [lineTo_len, hL]; exact hiT)
      have g0 : wo.cell? ⟨gL, i, none⟩ = some (.int .i64 va) := (HG.out.cell i).trans (by rw [List.getElem?_map, hva]; rfl)
      have g1 : wo.cell? ⟨gL, i + 1, none⟩ = some (.int .i64 vb) := (HG.out.cell (i + 1)).trans (by rw [List.getElem?_map, hvb]; rfl)
      have hmet : met xs L k = (x, va, vb) := by
        unfold met
        have e1 : xs.getD k ⟨0, 0, 0, 0⟩ = x := by rw [List.getD_eq_getElem?_getD, hx]; rfl
        rw [e1, hie]
        have e2 : ((i : Nat) : Int).toNat = i := by simp
        rw [e2, List.getD_eq_getElem?_getD, List.getD_eq_getElem?_getD, hva, hvb]; rfl
      rw [hie] at k1
      have HI := Lib.hid hie
      have HMET := Lib.hid hmet
      have HVA := Lib.hid hva
      have HVB := Lib.hid hvb
      have HXk := Lib.hid hx
      clear hx c0 c1 c2 c3 hie hmet hva hvb
      have i1 : IntKind.i64.wrap ((i : Int) + 1) = (i : Int) + 1 := IntWalk.i64_in _ (by omega)
      have i2 : ((i : Int) + 1).toNat = i + 1 := by omega
      have i3 : (0 : Int) ≤ (i : Int) + 1 := by omega
      have i4 : (i : Int) + 1 < 48 := by omega
      have i5 : (i : Int) < 48 := by omega
      have i6 : i < 48 := by omega
      have z1 : bc < wo.heap.size := by omega
      have z2 : bp < wo.heap.size := by omega
      have z3 := HG.out.lt
      have z4 : ba < wo.heap.size := by omega
      go_wp2
      have x0 : (wo.alloc (.cells #[.int .i64 x.a, .int .i64 (i : Int), .int .i64 x.c, .int .i64 x.d] 70)).cell? ⟨wo.heap.size, 0, none⟩ = some (.int .i64 x.a) := by go_simp
      have x1 : (wo.alloc (.cells #[.int .i64 x.a, .int .i64 (i : Int), .int .i64 x.c, .int .i64 x.d] 70)).cell? ⟨wo.heap.size, 1, none⟩ = some (.int .i64 (i : Int)) := by go_simp
      have x2 : (wo.alloc (.cells #[.int .i64 x.a, .int .i64 (i : Int), .int .i64 x.c, .int .i64 x.d] 70)).cell? ⟨wo.heap.size, 2, none⟩ = some (.int .i64 x.c) := by go_simp
      have x3 : (wo.alloc (.cells #[.int .i64 x.a, .int .i64 (i : Int), .int .i64 x.c, .int .i64 x.d] 70)).cell? ⟨wo.heap.size, 3, none⟩ = some (.int .i64 x.d) := by go_simp
      have hBW : Below wo.heap.size wo (wo.alloc (.cells #[.int .i64 x.a, .int .i64 (i : Int), .int .i64 x.c, .int .i64 x.d] 70)) := by go_grown
      have hKW : KeepsOthers wo (wo.alloc (.cells #[.int .i64 x.a, .int .i64 (i : Int), .int .i64 x.c, .int .i64 x.d] 70)) := KeepsOthers.alloc _ _
      have qx : wo.heap.size < (wo.alloc (.cells #[.int .i64 x.a, .int .i64 (i : Int), .int .i64 x.c, .int .i64 x.d] 70)).heap.size := by simp
      generalize (wo.alloc (.cells #[.int .i64 x.a, .int .i64 (i : Int), .int .i64 x.c, .int .i64 x.d] 70)) = W1 at *
      have G1 := Lib.hid (HG.out.below hBW z3)
      have M1 := Lib.hid (HM.out.go hKW (HIc.out _ _ _ _ HM.out.inv (KeepC.of_below hBW) hKW))
      have y0 := (hBW.cell (p := ⟨gL, i, none⟩) z3).trans g0
      have y1 := (hBW.cell (p := ⟨gL, i + 1, none⟩) z3).trans g1
      have y2 := (hBW.cell (p := ⟨bp, 0, none⟩) z2).trans a2
      refine wp_region_noPanic ?_
      refine wp_region_I (fun w' => w'.cell? ⟨wo.heap.size, 0, none⟩ = some (.int .i64 x.a) ∧ w'.cell? ⟨wo.heap.size, 1, none⟩ = some (.int .i64 (i : Int)) ∧ w'.cell? ⟨wo.heap.size, 2, none⟩ = some (.int .i64 x.c) ∧ w'.cell? ⟨wo.heap.size, 3, none⟩ = some (.int .i64 x.d) ∧ w'.cell? ⟨gL, i, none⟩ = some (.int .i64 va) ∧ w'.cell? ⟨gL, i + 1, none⟩ = some (.int .i64 vb) ∧ w'.cell? ⟨bp, 0, none⟩ = some (.pointer (some ⟨gL, 0, none⟩))) (by kernel_rfl) ?_
      have hSS : (fun w' => w'.cell? ⟨wo.heap.size, 0, none⟩ = some (.int .i64 x.a) ∧ w'.cell? ⟨wo.heap.size, 1, none⟩ = some (.int .i64 (i : Int)) ∧ w'.cell? ⟨wo.heap.size, 2, none⟩ = some (.int .i64 x.c) ∧ w'.cell? ⟨wo.heap.size, 3, none⟩ = some (.int .i64 x.d) ∧ w'.cell? ⟨gL, i, none⟩ = some (.int .i64 va) ∧ w'.cell? ⟨gL, i + 1, none⟩ = some (.int .i64 vb) ∧ w'.cell? ⟨bp, 0, none⟩ = some (.pointer (some ⟨gL, 0, none⟩))) W1.drew := ⟨x0, x1, x2, x3, y0, y1, y2⟩
      refine anyI_take (i := 0) (oi := _) (v := ?vvit0) rfl (by kernel_rfl) (by kernel_rfl) (by kernel_rfl) (fun _ _ _ h => h) (.inl ⟨by rfl, ?hyit0⟩) hSS ?_
      case hyit0 =>
        intro w' hSw
        try dsimp only at hSw
        go_simp
        all_goals with_reducible rfl
      try simp only [Act.put, List.setIfInBounds_toArray]
      refine anyI_take (i := 1) (oi := _) (v := ?vvit1) rfl (by kernel_rfl) (by kernel_rfl) (by kernel_rfl) (fun _ _ _ h => h) (.inl ⟨by rfl, ?hyit1⟩) hSS ?_
      case hyit1 =>
        intro w' hSw
        try dsimp only at hSw
        go_simp
        all_goals with_reducible rfl
      try simp only [Act.put]
      refine anyI_take (i := 2) (oi := _) (v := ?vvit2) rfl (by kernel_rfl) (by kernel_rfl) (by kernel_rfl) (fun _ _ _ h => h) (.inl ⟨by rfl, ?hyit2⟩) hSS ?_
      case hyit2 =>
        intro w' hSw
        try dsimp only at hSw
        go_simp
        all_goals with_reducible rfl
      try simp only [Act.put]
      refine anyI_take (i := 3) (oi := _) (v := ?vvit3) rfl (by kernel_rfl) (by kernel_rfl) (by kernel_rfl) (fun _ _ _ h => h) (.inl ⟨by rfl, ?hyit3⟩) hSS ?_
      case hyit3 =>
        intro w' hSw
        try dsimp only at hSw
        go_simp
        all_goals with_reducible rfl
      try simp only [Act.put]
      refine anyI_take (i := 4) (oi := _) (v := ?vvit4) rfl (by kernel_rfl) (by kernel_rfl) (by kernel_rfl) (fun _ _ _ h => h) (.inl ⟨by rfl, ?hyit4⟩) hSS ?_
      case hyit4 =>
        intro w' hSw
        try dsimp only at hSw
        go_simp
        all_goals with_reducible rfl
      try simp only [Act.put]
      refine anyI_take (i := 5) (oi := _) (v := ?vvit5) rfl (by kernel_rfl) (by kernel_rfl) (by kernel_rfl) (fun _ _ _ h => h) (.inl ⟨by rfl, ?hyit5⟩) hSS ?_
      case hyit5 =>
        intro w' hSw
        try dsimp only at hSw
        go_simp
        all_goals with_reducible rfl
      try simp only [Act.put]
      refine anyI_take (i := 6) (oi := _) (v := ?vvit6) rfl (by kernel_rfl) (by kernel_rfl) (by kernel_rfl) (fun _ _ _ h => h) (.inl ⟨by rfl, ?hyit6⟩) hSS ?_
      case hyit6 =>
        intro w' hSw
        try dsimp only at hSw
        go_simp
        all_goals with_reducible rfl
      try simp only [Act.put]
      refine anyI_take (i := 7) (oi := _) (v := ?vvit7) rfl (by kernel_rfl) (by kernel_rfl) (by kernel_rfl) (fun _ _ _ h => h) (.inl ⟨by rfl, ?hyit7⟩) hSS ?_
      case hyit7 =>
        intro w' hSw
        try dsimp only at hSw
        go_simp
        all_goals with_reducible rfl
      try simp only [Act.put]
      refine anyI_take (i := 8) (oi := _) (v := ?vvit8) rfl (by kernel_rfl) (by kernel_rfl) (by kernel_rfl) (fun _ _ _ h => h) (.inl ⟨by rfl, ?hyit8⟩) hSS ?_
      case hyit8 =>
        intro w' hSw
        try dsimp only at hSw
        go_simp
        all_goals with_reducible rfl
      try simp only [Act.put]
      refine anyI_take (i := 9) (oi := _) (v := ?vvit9) rfl (by kernel_rfl) (by kernel_rfl) (by kernel_rfl) (fun _ _ _ h => h) (.inl ⟨by rfl, ?hyit9⟩) hSS ?_
      case hyit9 =>
        intro w' hSw
        try dsimp only at hSw
        go_simp
        all_goals with_reducible rfl
      try simp only [Act.put]
      refine anyI_take (i := 10) (oi := _) (v := ?vvit10) rfl (by kernel_rfl) (by kernel_rfl) (by kernel_rfl) (fun _ _ _ h => h) (.inl ⟨by rfl, ?hyit10⟩) hSS ?_
      case hyit10 =>
        intro w' hSw
        try dsimp only at hSw
        go_simp
        all_goals with_reducible rfl
      try simp only [Act.put]
      refine anyI_take (i := 11) (oi := _) (v := ?vvit11) rfl (by kernel_rfl) (by kernel_rfl) (by kernel_rfl) (fun _ _ _ h => h) (.inl ⟨by rfl, ?hyit11⟩) hSS ?_
      case hyit11 =>
        intro w' hSw
        try dsimp only at hSw
        go_simp
        all_goals with_reducible rfl
      try simp only [Act.put]
      refine anyI_take (i := 12) (oi := _) (v := ?vvit12) rfl (by kernel_rfl) (by kernel_rfl) (by kernel_rfl) (fun _ _ _ h => h) (.inl ⟨by rfl, ?hyit12⟩) hSS ?_
      case hyit12 =>
        intro w' hSw
        try dsimp only at hSw
        go_simp
        all_goals with_reducible rfl
      try simp only [Act.put]
      refine anyI_take (i := 13) (oi := _) (v := ?vvit13) rfl (by kernel_rfl) (by kernel_rfl) (by kernel_rfl) (fun _ _ _ h => h) (.inl ⟨by rfl, ?hyit13⟩) hSS ?_
      case hyit13 =>
        intro w' hSw
        try dsimp only at hSw
        go_simp
        all_goals with_reducible rfl
      try simp only [Act.put]
      refine anyI_take (i := 14) (oi := _) (v := ?vvit14) rfl (by kernel_rfl) (by kernel_rfl) (by kernel_rfl) (fun _ _ _ h => h) (.inl ⟨by rfl, ?hyit14⟩) hSS ?_
      case hyit14 =>
        intro w' hSw
        try dsimp only at hSw
        go_simp
        all_goals with_reducible rfl
      try simp only [Act.put]
      refine anyI_take (i := 15) (oi := _) (v := ?vvit15) rfl (by kernel_rfl) (by kernel_rfl) (by kernel_rfl) (fun _ _ _ h => h) (.inl ⟨by rfl, ?hyit15⟩) hSS ?_
      case hyit15 =>
        intro w' hSw
        try dsimp only at hSw
        go_simp
        all_goals with_reducible rfl
      try simp only [Act.put]
      have hYk := HY.out hi k W1.drew hlt (Nat.le_trans hhi hBW.size) (M1.out.go (KeepsOthers.drew W1) (HIc.out _ _ _ _ M1.out.inv (KeepC.of_below (Below.refl _ W1)).drew (KeepsOthers.drew W1)))
      rw [HMET.out] at hYk
      have eM : encM (x, va, vb) = #[.agg #[.int .i64 x.a, .int .i64 (i : Int), .int .i64 x.c, .int .i64 x.d], .agg #[.int .i64 va, .int .i64 vb]] := by rw [← HI.out]; rfl
      rw [eM] at hYk
      clear eM
      unfold YieldAt at hYk
      obtain ⟨fn, tmps, assign, body, hy, hR⟩ := hYk
      have HRR := Lib.hid hR
      clear hR
      refine anyI_one (i := 16) rfl (by kernel_rfl) ?_
      refine opI_round (o := { dst := some 29, op := .call { callee := .value (.tmp 13), args := #[.tmp 14, .tmp 28], argTypes := #[70, 54] }, type := 4, pos := "cloth.go:68", after := #[{ on := 0, ground := .data }, { on := 1, ground := .data }, { on := 15, ground := .data }], guard := none }) (l := l) (fn := fn) (tmps := tmps) (assign := assign) (body := body) rfl (by rfl) ?_ HRR.out ?_
      · go_simp
      · rintro e w3 ⟨rfl, hM3, hKB⟩
        · have hold : ∀ r, r < W1.heap.size → r ≠ l → (r < w0 ∧ r ≠ bO ∨ hi ≤ r) → w3.heap[r]? = W1.heap[r]? := fun r hr hl hx => hKB.2 r hr hl hx
          have hk : ∀ r, r < W1.heap.size → r = wo.heap.size ∨ r = gL ∨ r = bp → w3.heap[r]? = W1.heap[r]? := fun r hr hx => hold r hr (by rcases hx with e | e | e <;> omega) (by rcases hx with e | e | e <;> omega)
          have s0 := (cell_same (a := ⟨wo.heap.size, 0, none⟩) (hk wo.heap.size qx (.inl rfl))).trans x0
          have s1 := (cell_same (a := ⟨wo.heap.size, 1, none⟩) (hk wo.heap.size qx (.inl rfl))).trans x1
          have s2 := (cell_same (a := ⟨wo.heap.size, 2, none⟩) (hk wo.heap.size qx (.inl rfl))).trans x2
          have s3 := (cell_same (a := ⟨wo.heap.size, 3, none⟩) (hk wo.heap.size qx (.inl rfl))).trans x3
          have s4 := (cell_same (a := ⟨gL, i, none⟩) (hk gL G1.out.lt (.inr (.inl rfl)))).trans y0
          have s5 := (cell_same (a := ⟨gL, i + 1, none⟩) (hk gL G1.out.lt (.inr (.inl rfl)))).trans y1
          have s6 := (cell_same (a := ⟨bp, 0, none⟩) (hk bp (by omega) (.inr (.inr rfl)))).trans y2
          refine ⟨_, rfl, ⟨s0, s1, s2, s3, s4, s5, s6⟩, ?_⟩
          try simp only [Act.put]
          refine anyI_take (i := 17) (oi := _) (v := ?vvzt) rfl (by kernel_rfl) (by kernel_rfl) (by kernel_rfl) (fun _ _ _ h => h) (.inl ⟨by rfl, ?hyzt⟩) ⟨s0, s1, s2, s3, s4, s5, s6⟩ ?_
          case hyzt =>
            intro w' hSw
            try dsimp only at hSw
            go_simp
            all_goals with_reducible rfl
          simp only [Act.put, List.getElem_toArray, List.getElem_cons_succ, List.getElem_cons_zero, List.setIfInBounds_toArray, List.set_cons_zero, List.set_cons_succ]
          refine anyI_done (by kernel_rfl) (NoPanic.normal ?_) _
          have qx3 : wo.heap.size < w3.heap.size := Nat.lt_of_lt_of_le qx hKB.1
          have q3 : bp < w3.heap.size := by omega
          have q4 : gL < w3.heap.size := Nat.lt_of_lt_of_le G1.out.lt hKB.1
          have G3 : Has w3 gL 74 ((lineTo xs L k).map vInt) := G1.out.same (hk gL G1.out.lt (.inr (.inl rfl)))
          have ea : ((lineTo xs L k).map vInt)[i]? = some (.int .i64 va) := by rw [List.getElem?_map, HVA.out]; rfl
          have eb : ((lineTo xs L k).map vInt)[i + 1]? = some (.int .i64 vb) := by rw [List.getElem?_map, HVB.out]; rfl
          have HEA := Lib.hid ea; have HEB := Lib.hid eb; clear ea eb
          have HOLD := Lib.hid hold; clear hold hk hy
          have HKB := Lib.hid hKB; clear hKB
          have HKEEP := Lib.hid hkeep; clear hkeep
          clear x0 x1 x2 x3 y0 y1 y2 g0 g1 a1 a2 k0 k1 k2 k3
          go_wp2_with fail
          refine (swap65 gL i ((lineTo xs L k).map vInt) va vb w3 G3 hiT HEA.out HEB.out).mono ?_
          rintro e w4 ⟨⟨v, rfl⟩, hG4, hKC, hKO⟩
          go_wp2
          go_roundw
          case rel =>
            have hln : lineTo xs L (k + 1) = ((lineTo xs L k).set i vb).set (i + 1) va := by
              show (match xs[k]? with | some x => swapL (lineTo xs L k) x | none => lineTo xs L k) = _
              rw [HXk.out]
              show swapL (lineTo xs L k) x = _
              have e2 : ((i : Nat) : Int).toNat = i := by simp
              unfold swapL
              rw [HI.out, e2, List.getD_eq_getElem?_getD, List.getD_eq_getElem?_getD, HVA.out, HVB.out]; rfl
            refine ⟨w3.heap.size, k + 1, by omega, by go_num, hKC.size, ?_, ?_, ?_, ?_⟩
            · rw [came_succ, HMET.out]; exact hM3.go hKO (HIc.out _ _ _ _ hM3.inv hKC hKO)
            · rw [hln]; simpa only [List.map_set] using hG4
            · have h1 := hKC.size; have h2 := HKB.out.1; have h3 := hBW.size; have h4 : W1.drew.heap.size = W1.heap.size := rfl; omega
            · intro r hr hr1 hr2
              have hrw : r < wo.heap.size := by omega
              have hr3 : r < W1.heap.size := by omega
              have hr4 : r < w3.heap.size := by have := HKB.out.1; have h4 : W1.drew.heap.size = W1.heap.size := rfl; omega
              exact (hKC.same r hr4 hr2).trans ((HOLD.out r hr3 (by omega) (.inl ⟨hr, hr1⟩)).trans ((hBW.block r hrw).trans (HKEEP.out r hr hr1 hr2)))
          case measure => first | (simp [intOf]; done) | (simp [intOf]; omega)
    · --END
      obtain rfl : k = n := by omega
      go_wp2
      go_end0
      exact ⟨⟨_, rfl⟩, hi, HM.out⟩
end Go.Proofs.Ytpljaoagiaijiaa
/-
  Contract of cloth's sets: first.
-/
namespace Go.Proofs.Ytpljaoagiaijiaa
open Go.RowKit
set_option maxRecDepth 100000 in
set_option maxHeartbeats 1000000 in
theorem first54 (g T n : Nat) (s : List Int) (w : World) (hh : Has w g 93 (s.map vInt)) (hP : PInv T s) (hT : T ≤ 48) (hn : n < T) :
    Calls Try.prog 54 #[.pointer (some ⟨g, 0, none⟩), .int .i64 (n : Int)] w fun e w' => e = .returned (.int .i64 (rt s n : Nat)) ∧ w = w' := by
  have HH := Lib.hid hh
  have HP := Lib.hid hP
  have hg := hh.lt
  clear hh hP
  go_enter Try.func54, Try.ntmps54
  go_wp2
  go_loop [1] (fun i => ∃ k : Nat, k < T ∧ i = .int .i64 (k : Int) ∧ Hid (rt s k = rt s n)) (fun i => (intOf i).toNat)
  case atStart => exact ⟨n, hn, rfl, Lib.hid rfl⟩
  case round =>
    obtain ⟨k, hk, rfl, HR⟩ := hrel
    obtain ⟨v, hv, hle⟩ := HP.out k hk
    have hst := rt_step HP.out hk hv
    have c0 : w.cell? ⟨g, k, none⟩ = some (.int .i64 (v : Int)) := (HH.out.cell k).trans (by rw [List.getElem?_map, hv]; rfl)
    have k48 : (k : Int) < 48 := by omega
    have k48' : k < 48 := by omega
    by_cases e : v = k
    · have d1 : ((v : Int) != (k : Int)) = false := by rw [e]; simp
      rw [if_pos e] at hst
      have HS := Lib.hid hst
      clear hst hv e
      go_wp2
      go_ret
      exact ⟨ret_int (by rw [← HR.out, HS.out]), rfl⟩
    · have d1 : ((v : Int) != (k : Int)) = true := by simp; omega
      rw [if_neg e] at hst
      have HS := Lib.hid hst
      have hlt : v < k := by omega
      clear hst hv e
      go_wp2
      go_round
      case rel => exact ⟨v, by omega, rfl, Lib.hid (by rw [← HR.out, HS.out])⟩
      case measure => simp [intOf]; omega
end Go.Proofs.Ytpljaoagiaijiaa
/-
  Memory words: a block of slices, each the call's own row of ints.
-/
namespace Go.Proofs.Ytpljaoagiaijiaa
open Go.RowKit
/-- block g holds the slices Vs; slice q is the own row of rows q; no two share a block -/
structure RowsSt (W : World) (g base : Nat) (Vs : List Value) (rows : List (List Int)) : Prop where
  has : Has W g 35 Vs
  len : Vs.length = rows.length
  own : ∀ (q : Nat) (v : Value) (r : List Int), Vs[q]? = some v → rows[q]? = some r → W.ownsRow base 3 1 v r.length (r.map vInt)
  apart : ∀ (q q' : Nat) (v v' : Value), q ≠ q' → Vs[q]? = some v → Vs[q']? = some v' → ∀ b, v.ownBlock = some b → v'.ownBlock ≠ some b
  lo : g < base
theorem RowsSt.below {W W' : World} {g base : Nat} {Vs : List Value} {rows : List (List Int)} (h : RowsSt W g base Vs rows) (k : Below W.heap.size W W') : RowsSt W' g base Vs rows :=
  ⟨h.has.below k h.has.lt, h.len, fun q v r hv hr => own_below (h.own q v r hv hr) k, h.apart, h.lo⟩
/-- a number is put behind row q: the row grows (in place, or in a new block), and the slice is stored -/
theorem RowsSt.pushed {W W' : World} {g base q : Nat} {Vs : List Value} {rows : List (List Int)} (h : RowsSt W g base Vs rows) {v v' : Value} {r : List Int} {x : Int} (hv : Vs[q]? = some v) (hr : rows[q]? = some r) (ho : W'.ownsRow base 3 1 v' (r.length + 1) (r.map vInt ++ [vInt x])) (k : W.grownBy W' v.ownBlock)
    (hnew : ∀ b, v'.ownBlock = some b → some b = v.ownBlock ∨ W.heap.size ≤ b) : RowsSt (W'.setCell ⟨g, q, none⟩ v') g base (Vs.set q v') (rows.set q (r ++ [x])) := by
  have hne : v.ownBlock ≠ some g := fun e => by have := ((h.own q v r hv hr).lt g e).1; have := h.lo; omega
  have hg : Has W' g _ _ := h.has.same (k.block g h.has.lt (fun e => hne e.symm))
  have hB := But.set g W' q v'
  have hq := lt_of_get hv
  have hq2 := lt_of_get hr
  refine ⟨hg.set q v', by rw [List.length_set, List.length_set]; exact h.len, ?_, ?_, h.lo⟩
  · intro p u s hu hs
    rw [List.getElem?_set] at hu hs
    by_cases e : q = p
    · subst e
      rw [if_pos rfl, if_pos hq] at hu
      rw [if_pos rfl, if_pos hq2] at hs
      injection hu with hu; injection hs with hs
      subst hu; subst hs
      have : (r ++ [x]).map vInt = r.map vInt ++ [vInt x] := by simp
      rw [this, show (r ++ [x]).length = r.length + 1 by simp]
      exact hB.own ho (fun e => by have := (ho.lt g e).1; have := h.lo; omega)
    · rw [if_neg e] at hu hs
      have h1 := h.own p u s hu hs
      have h2 : W'.ownsRow base 3 1 u s.length (s.map vInt) := h1.kept k (by
        cases hub : u.ownBlock with
        | none => exact .inl rfl
        | some b => exact .inr (fun eb => h.apart p q u v (Ne.symm e) hu hv b hub eb.symm))
      exact hB.own h2 (fun e => by have := (h2.lt g e).1; have := h.lo; omega)
  · intro p p' u u' hpp hu hu' b hb hb'
    rw [List.getElem?_set] at hu hu'
    by_cases e : q = p
    · subst e
      rw [if_pos rfl, if_pos hq] at hu
      rw [if_neg hpp] at hu'
      injection hu with hu
      subst hu
      rcases hnew b hb with hh | hh
      · exact h.apart q p' v u' hpp hv hu' b hh.symm hb'
      · obtain ⟨s, hs⟩ := get_of_lt (l := rows) (k := p') (by rw [← h.len]; exact lt_of_get hu')
        have := (h.own p' u' s hu' hs).lt b hb'
        omega
    · rw [if_neg e] at hu
      by_cases e' : q = p'
      · subst e'
        rw [if_pos rfl, if_pos hq] at hu'
        injection hu' with hu'
        subst hu'
        rcases hnew b hb' with hh | hh
        · exact h.apart p q u v hpp hu hv b hb hh.symm
        · obtain ⟨s, hs⟩ := get_of_lt (l := rows) (k := p) (by rw [← h.len]; exact lt_of_get hu)
          have := (h.own p u s hu hs).lt b hb
          omega
      · rw [if_neg e'] at hu'
        exact h.apart p p' u u' hpp hu hu' b hb hb'
/-- the start: nil slices -/
theorem RowsSt.start {W : World} {g base T : Nat} (h : Has W g 35 (List.replicate T (.slice none 0 0))) (hl : g < base) : RowsSt W g base (List.replicate T (.slice none 0 0)) (List.replicate T []) := by
  refine ⟨h, by simp, ?_, ?_, hl⟩
  · intro q v r hv hr
    rw [List.getElem?_replicate] at hv hr
    by_cases hq : q < T
    · rw [if_pos hq] at hv hr
      injection hv with hv
      injection hr with hr
      rw [← hv, ← hr]
      exact World.ownsRow_nil _ _ _ _
    · rw [if_neg hq] at hv; cases hv
  · intro q q' v v' _ hv _ b hb
    rw [List.getElem?_replicate] at hv
    split at hv
    · injection hv with hv; subst hv; simp [Value.ownBlock] at hb
    · cases hv
/-- the sets of the first m threads, by least thread -/
def grpTo (xs : List Q4) (T m : Nat) : List (List Int) := (List.range T).map (fun k => ((List.range m).filter (fun i => repTo xs xs.length i == k)).map (fun (i : Nat) => (i : Int)))
theorem grpTo_zero (xs : List Q4) (T : Nat) : grpTo xs T 0 = List.replicate T [] := by
  apply List.ext_getElem?
  intro k
  unfold grpTo
  rw [List.getElem?_map, List.getElem?_replicate]
  by_cases h : k < T
  · rw [List.getElem?_range h, if_pos h]; rfl
  · rw [List.getElem?_eq_none (by simpa using h), if_neg h]; rfl
theorem grpTo_get {xs : List Q4} {T m k : Nat} (h : k < T) : (grpTo xs T m)[k]? = some (((List.range m).filter (fun i => repTo xs xs.length i == k)).map (fun (i : Nat) => (i : Int))) := by
  unfold grpTo
  rw [List.getElem?_map, List.getElem?_range h]; rfl
theorem grpTo_succ {xs : List Q4} {T m k : Nat} {r : List Int} (hk : repTo xs xs.length m = k) (hT : k < T) (hr : (grpTo xs T m)[k]? = some r) : grpTo xs T (m + 1) = (grpTo xs T m).set k (r ++ [(m : Int)]) := by
  apply List.ext_getElem?
  intro j
  have hl : (grpTo xs T m).length = T := by unfold grpTo; simp
  rw [List.getElem?_set, hl]
  by_cases hj : j < T
  · rw [grpTo_get hj, grpTo_get hj, List.range_succ, List.filter_append]
    rw [grpTo_get hT] at hr
    injection hr with hr
    by_cases e : k = j
    · subst e
      rw [if_pos rfl, if_pos hT, ← hr]
      simp [hk]
    · rw [if_neg e]
      have : (repTo xs xs.length m == j) = false := by rw [hk]; simpa using e
      simp [this]
  · have e1 : (grpTo xs T (m + 1))[j]? = none := by rw [List.getElem?_eq_none]; unfold grpTo; simp; omega
    have e2 : (grpTo xs T m)[j]? = none := by rw [List.getElem?_eq_none]; rw [hl]; omega
    rw [e1, e2]
    by_cases e : k = j
    · omega
    · rw [if_neg e]
theorem setsR_grp (xs : List Q4) (T : Nat) : setsR xs T = (grpTo xs T T).filter (fun l => !l.isEmpty) := rfl
end Go.Proofs.Ytpljaoagiaijiaa
