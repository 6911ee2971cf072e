/-
  Contract of colours.asked, for any closure: given what holds behind k crossings.
-/
import Derived.Test.YtnijfkidgndbdaaSee
namespace Go.Proofs.Ytnijfkidgndbdaa
open Go.RowKit
set_option maxRecDepth 100000 in
set_option maxHeartbeats 2000000 in
theorem asked40 (I : Nat → World → Prop) (g : Nat) (caps : Array Value) (t : Int) (A B D : Option Addr) (n c m d k e B0 : Nat) (xs ps : List Q4) (ds : List Int) (w : World)
    (eg : ∀ args w, (callFunc g args).run Try.prog w = .ok (.enter g args) w) (hB0 : B0 ≤ w.heap.size)
    (hn : n ≤ 9223372036854775807) (hm : m ≤ 9223372036854775807) (hk : k ≤ 9223372036854775807) (hx : RdQ w B0 A xs) (hp : RdQ w B0 B ps) (hd : RdI w B0 D ds)
    (hl : xs.length = n) (hl' : ps.length = m) (hlk : ds.length = k) (ht0 : -9223372036854775808 ≤ t) (h0 : I 0 w)
    (hmono : ∀ j W W', I j W → Below W.heap.size W W' → I j W')
    (hcall : chkE t xs ps ds = 0 → ∀ j x W, xs[j]? = some x → I j W → Calls Try.prog g (#[.int .i64 (j : Int), .int .i64 (ds.getD x.c.toNat 0), .int .i64 (ds.getD x.d.toNat 0)] ++ caps) W fun e W' => (∃ v, e = .returned v) ∧ I (j + 1) W' ∧ Below B0 W W' ∧ (∀ r tt cs, tt = 25 ∨ tt = 38 → Has W r tt cs → Has W' r tt cs)) :
    Calls Try.prog 40 #[vCloth t A n c B m d, .slice D k e, .func (.func g) #[] caps] w fun e w' => e = .returned (.int .i64 (chkE t xs ps ds)) ∧ Below B0 w w' ∧ (chkE t xs ps ds = 0 → I n w') ∧ (chkE t xs ps ds ≠ 0 → I 0 w') := by
  have HX := Lib.hid hx
  have HD := Lib.hid hd
  have C1 := Lib.hid (fun (W : World) (hb : Below w.heap.size w W) => check16 t A B D n c m d k e xs ps ds W hn hm hk (hx.below (hb.mono hB0) (Nat.le_trans hB0 hb.size)) (hp.below (hb.mono hB0) (Nat.le_trans hB0 hb.size)) (hd.below (hb.mono hB0) (Nat.le_trans hB0 hb.size)) hl hl' hlk ht0)
  clear hx hp hd
  have HL := Lib.hid hl; clear hl
  have HK := Lib.hid hlk; clear hlk
  have HM := Lib.hid hmono; clear hmono
  have HI := Lib.hid h0; clear h0
  have HCALL := Lib.hid hcall; clear hcall
  have K0 : Has (w.alloc (.cells #[.int .i64 t, .slice A n c, .slice B m d] 25)) w.heap.size 25 [.int .i64 t, .slice A n c, .slice B m d] := Has.new rfl
  by_cases hE : chkE t xs ps ds = 0
  · obtain ⟨g1, g2, g3⟩ := chkE_ok hE
    have HO := Lib.hid (cross_ok g1)
    have hn2 : n ≤ 20000 := by have := (ckE_ok g1).2.2.1; rw [HL.out] at this; exact this
    have HT := Lib.hid g2
    have CALL0 := Lib.hid (HCALL.out hE)
    clear HCALL
    rw [hE] at C1 ⊢
    clear hE g1 g2 g3 hl'
    go_enter Try.func40, Try.ntmps40
    go_wp2_with fail
    refine (C1.out _ (by go_grown)).mono ?_
    rintro e w1 ⟨rfl, hb1⟩
    have B1 := bvia (show Below w.heap.size w _ by go_grown) hb1
    have HC := Lib.hid (K0.below hb1 K0.lt)
    have a0 : w1.cell? ⟨w.heap.size, 0, none⟩ = some (.int .i64 t) := HC.out.cell 0
    have a1 : w1.cell? ⟨w.heap.size, 1, none⟩ = some (.slice A n c) := HC.out.cell 1
    have q := HC.out.lt
    have HI1 := Lib.hid (HM.out _ _ _ HI.out B1)
    have BB := B1.mono hB0
    clear K0 hb1 C1 HI B1
    go_wp2
    go_loopw [19] (fun i wr => ∃ j : Nat, j ≤ n ∧ i = .int .i64 (j : Int) ∧ Hid (I j wr) ∧ Has wr w.heap.size 25 [.int .i64 t, .slice A n c, .slice B m d] ∧ Below B0 w wr) (fun i _ => n - (intOf i).toNat)
    case atStart => exact ⟨0, Nat.zero_le _, rfl, HI1, HC.out, BB⟩
    case round =>
      clear HI1 HC BB a0 a1 q
      obtain ⟨j, hj, rfl, hI, hh, hb⟩ := hrel
      obtain ⟨wo, rfl⟩ : ∃ wo : World, wo = wr := ⟨_, rfl⟩
      have HH := Lib.hid hh
      have a0 : wo.cell? ⟨w.heap.size, 0, none⟩ = some (.int .i64 t) := hh.cell 0
      have a1 : wo.cell? ⟨w.heap.size, 1, none⟩ = some (.slice A n c) := hh.cell 1
      have q := hh.lt
      clear hh
      by_cases hlt : j < n
      · obtain ⟨x, hx⟩ := get_of_lt (l := xs) (k := j) (by rw [HL.out]; exact hlt)
        obtain ⟨ba, o, rfl, hba, c0, c1, c2, c3⟩ := (HX.out.below (B' := B0) hb (Nat.le_refl _)) _ x hx
        obtain ⟨⟨⟨hc0, hc1⟩, hd0, hd1⟩, _⟩ := HO.out x (mem_of_get hx)
        have CALL := Lib.hid (fun W hW => CALL0.out j x W hx hW)
        obtain ⟨i, hi⟩ := Int.eq_ofNat_of_zero_le hc0
        obtain ⟨i', hi'⟩ := Int.eq_ofNat_of_zero_le hd0
        have hiT : i < k := by have h1 := HT.out; have h2 := HK.out; omega
        have hiT' : i' < k := by have h1 := HT.out; have h2 := HK.out; omega
        obtain ⟨va, hva⟩ := get_of_lt (l := ds) (k := i) (by rw [HK.out]; exact hiT)
        obtain ⟨vb, hvb⟩ := get_of_lt (l := ds) (k := i') (by rw [HK.out]; exact hiT')
        obtain ⟨bd, od, hDD, hbd, e0⟩ := (HD.out.below (B' := B0) hb (Nat.le_refl _)) _ va hva
        subst hDD
        obtain ⟨bd', od', hDD, hbd', e1⟩ := (HD.out.below (B' := B0) hb (Nat.le_refl _)) _ vb hvb
        injection hDD with hDD; injection hDD with hq1 hq2
        subst hq1 hq2
        have eA : ds.getD x.c.toNat 0 = va := by rw [hi, show ((i : Nat) : Int).toNat = i by simp, List.getD_eq_getElem?_getD, hva]; rfl
        have eB : ds.getD x.d.toNat 0 = vb := by rw [hi', show ((i' : Nat) : Int).toNat = i' by simp, List.getD_eq_getElem?_getD, hvb]; rfl
        rw [eA, eB] at CALL
        rw [hi] at c2
        rw [hi'] at c3
        clear hx hi hi' hva hvb hc0 hc1 hd0 hd1 eA eB hbd' HX HD
        have hi0 : (0 : Int) ≤ (i : Int) := by omega
        have hi1 : (i : Int) < (k : Int) := by omega
        have hi0' : (0 : Int) ≤ (i' : Int) := by omega
        have hi1' : (i' : Int) < (k : Int) := by omega
        have zb : bd < wo.heap.size := by have := hb.size; omega
        go_wp2
        have x2 : (wo.alloc (.cells #[.int .i64 x.a, .int .i64 x.b, .int .i64 (i : Int), .int .i64 (i' : Int)] 38)).cell? ⟨wo.heap.size, 2, none⟩ = some (.int .i64 (i : Int)) := by go_simp
        have x3 : (wo.alloc (.cells #[.int .i64 x.a, .int .i64 x.b, .int .i64 (i : Int), .int .i64 (i' : Int)] 38)).cell? ⟨wo.heap.size, 3, none⟩ = some (.int .i64 (i' : Int)) := by go_simp
        have hX1 : Has (wo.alloc (.cells #[.int .i64 x.a, .int .i64 x.b, .int .i64 (i : Int), .int .i64 (i' : Int)] 38)) wo.heap.size 38 [.int .i64 x.a, .int .i64 x.b, .int .i64 (i : Int), .int .i64 (i' : Int)] := Has.new rfl
        have hBW : Below wo.heap.size wo (wo.alloc (.cells #[.int .i64 x.a, .int .i64 x.b, .int .i64 (i : Int), .int .i64 (i' : Int)] 38)) := by go_grown
        generalize (wo.alloc (.cells #[.int .i64 x.a, .int .i64 x.b, .int .i64 (i : Int), .int .i64 (i' : Int)] 38)) = W1 at *
        have y0 := (hBW.cell (p := ⟨bd, od + i, none⟩) zb).trans e0
        have y1 := (hBW.cell (p := ⟨bd, od + i', none⟩) zb).trans e1
        have HX1 := Lib.hid hX1.drew; clear hX1
        have H1 := Lib.hid (HH.out.below hBW q)
        have hBD : Below wo.heap.size wo W1.drew := ⟨hBW.os, hBW.tape, hBW.output, hBW.size, hBW.block⟩
        have I1 := Lib.hid (HM.out _ _ _ hI.out hBD)
        have BB := bvia' hb hB0 hBD
        clear hBW e0 e1 c0 c1 c2 c3 a0 a1 hBD
        refine wp_region_noPanic ?_
        refine wp_region_B (fun b w' => w'.cell? ⟨wo.heap.size, 2, none⟩ = some (.int .i64 (i : Int)) ∧ w'.cell? ⟨wo.heap.size, 3, none⟩ = some (.int .i64 (i' : Int)) ∧ (b = false → w'.cell? ⟨bd, od + i, none⟩ = some (.int .i64 va) ∧ w'.cell? ⟨bd, od + i', none⟩ = some (.int .i64 vb))) 12 (by kernel_rfl) ?_
        have hSS : (fun b w' => w'.cell? ⟨wo.heap.size, 2, none⟩ = some (.int .i64 (i : Int)) ∧ w'.cell? ⟨wo.heap.size, 3, none⟩ = some (.int .i64 (i' : Int)) ∧ (b = false → w'.cell? ⟨bd, od + i, none⟩ = some (.int .i64 va) ∧ w'.cell? ⟨bd, od + i', none⟩ = some (.int .i64 vb))) false (W1.drew) := ⟨x2, x3, fun _ => ⟨y0, y1⟩⟩
        refine wpAnyB_take (i := 0) (oi := _) (v := ?vv1) (fun w' => w'.cell? ⟨wo.heap.size, 2, none⟩ = some (.int .i64 (i : Int)) ∧ w'.cell? ⟨wo.heap.size, 3, none⟩ = some (.int .i64 (i' : Int))) rfl (by kernel_rfl) (by kernel_rfl) (by kernel_rfl) (by kernel_rfl) (by rfl) (fun _ h => ⟨h.1, h.2.1⟩) (.inl fun _ h => ⟨h.1, h.2.1⟩) (fun _ _ _ h => h) (.inl ⟨by rfl, ?hy1⟩) hSS ?_
        case hy1 =>
          intro w' hSw
          try dsimp only at hSw
          go_simp
          all_goals with_reducible rfl
        try simp only [Act.put, List.setIfInBounds_toArray]
        refine wpAnyB_take (i := 1) (oi := _) (v := ?vv2) (fun w' => w'.cell? ⟨wo.heap.size, 2, none⟩ = some (.int .i64 (i : Int)) ∧ w'.cell? ⟨wo.heap.size, 3, none⟩ = some (.int .i64 (i' : Int))) rfl (by kernel_rfl) (by kernel_rfl) (by kernel_rfl) (by kernel_rfl) (by rfl) (fun _ h => ⟨h.1, h.2.1⟩) (.inl fun _ h => ⟨h.1, h.2.1⟩) (fun _ _ _ h => h) (.inl ⟨by rfl, ?hy2⟩) hSS ?_
        case hy2 =>
          intro w' hSw
          try dsimp only at hSw
          go_simp
          all_goals with_reducible rfl
        try simp only [Act.put]
        refine wpAnyB_take (i := 2) (oi := _) (v := ?vv3) (fun w' => w'.cell? ⟨wo.heap.size, 2, none⟩ = some (.int .i64 (i : Int)) ∧ w'.cell? ⟨wo.heap.size, 3, none⟩ = some (.int .i64 (i' : Int))) rfl (by kernel_rfl) (by kernel_rfl) (by kernel_rfl) (by kernel_rfl) (by rfl) (fun _ h => ⟨h.1, h.2.1⟩) (.inl fun _ h => ⟨h.1, h.2.1⟩) (fun _ _ _ h => h) (.inl ⟨by rfl, ?hy3⟩) hSS ?_
        case hy3 =>
          intro w' hSw
          try dsimp only at hSw
          go_simp
          all_goals with_reducible rfl
        try simp only [Act.put]
        refine wpAnyB_take (i := 3) (oi := _) (v := ?vv4) (fun w' => w'.cell? ⟨wo.heap.size, 2, none⟩ = some (.int .i64 (i : Int)) ∧ w'.cell? ⟨wo.heap.size, 3, none⟩ = some (.int .i64 (i' : Int))) rfl (by kernel_rfl) (by kernel_rfl) (by kernel_rfl) (by kernel_rfl) (by rfl) (fun _ h => ⟨h.1, h.2.1⟩) (.inl fun _ h => ⟨h.1, h.2.1⟩) (fun _ _ _ h => h) (.inl ⟨by rfl, ?hy4⟩) hSS ?_
        case hy4 =>
          intro w' hSw
          try dsimp only at hSw
          go_simp
          all_goals with_reducible rfl
        try simp only [Act.put]
        refine wpAnyB_take (i := 4) (oi := _) (v := ?vv5) (fun w' => w'.cell? ⟨wo.heap.size, 2, none⟩ = some (.int .i64 (i : Int)) ∧ w'.cell? ⟨wo.heap.size, 3, none⟩ = some (.int .i64 (i' : Int))) rfl (by kernel_rfl) (by kernel_rfl) (by kernel_rfl) (by kernel_rfl) (by rfl) (fun _ h => ⟨h.1, h.2.1⟩) (.inl fun _ h => ⟨h.1, h.2.1⟩) (fun _ _ _ h => h) (.inl ⟨by rfl, ?hy5⟩) hSS ?_
        case hy5 =>
          intro w' hSw
          try dsimp only at hSw
          go_simp
          all_goals with_reducible rfl
        try simp only [Act.put]
        refine wpAnyB_take (i := 5) (oi := _) (v := ?vv6) (fun w' => w'.cell? ⟨wo.heap.size, 2, none⟩ = some (.int .i64 (i : Int)) ∧ w'.cell? ⟨wo.heap.size, 3, none⟩ = some (.int .i64 (i' : Int))) rfl (by kernel_rfl) (by kernel_rfl) (by kernel_rfl) (by kernel_rfl) (by rfl) (fun _ h => ⟨h.1, h.2.1⟩) (.inl fun _ h => ⟨h.1, h.2.1⟩) (fun _ _ _ h => h) (.inl ⟨by rfl, ?hy6⟩) hSS ?_
        case hy6 =>
          intro w' hSw
          try dsimp only at hSw
          go_simp
          all_goals with_reducible rfl
        try simp only [Act.put]
        refine wpAnyB_take (i := 6) (oi := _) (v := ?vv7) (fun w' => w'.cell? ⟨wo.heap.size, 2, none⟩ = some (.int .i64 (i : Int)) ∧ w'.cell? ⟨wo.heap.size, 3, none⟩ = some (.int .i64 (i' : Int)) ∧ w'.cell? ⟨bd, od + i, none⟩ = some (.int .i64 va) ∧ w'.cell? ⟨bd, od + i', none⟩ = some (.int .i64 vb)) rfl (by kernel_rfl) (by kernel_rfl) (by kernel_rfl) (by kernel_rfl) (by rfl) (fun _ h => ⟨h.1, h.2.1, h.2.2 rfl⟩) (.inr (by kernel_rfl)) (fun _ _ _ h => h) (.inl ⟨by rfl, ?hy7⟩) hSS ?_
        case hy7 =>
          intro w' hSw
          try dsimp only at hSw
          go_simp
          all_goals with_reducible rfl
        try simp only [Act.put]
        refine wpAnyB_take (i := 7) (oi := _) (v := ?vv8) (fun w' => w'.cell? ⟨wo.heap.size, 2, none⟩ = some (.int .i64 (i : Int)) ∧ w'.cell? ⟨wo.heap.size, 3, none⟩ = some (.int .i64 (i' : Int))) rfl (by kernel_rfl) (by kernel_rfl) (by kernel_rfl) (by kernel_rfl) (by rfl) (fun _ h => ⟨h.1, h.2.1⟩) (.inl fun _ h => ⟨h.1, h.2.1⟩) (fun _ _ _ h => h) (.inl ⟨by rfl, ?hy8⟩) hSS ?_
        case hy8 =>
          intro w' hSw
          try dsimp only at hSw
          go_simp
          all_goals with_reducible rfl
        try simp only [Act.put]
        refine wpAnyB_take (i := 8) (oi := _) (v := ?vv9) (fun w' => w'.cell? ⟨wo.heap.size, 2, none⟩ = some (.int .i64 (i : Int)) ∧ w'.cell? ⟨wo.heap.size, 3, none⟩ = some (.int .i64 (i' : Int))) rfl (by kernel_rfl) (by kernel_rfl) (by kernel_rfl) (by kernel_rfl) (by rfl) (fun _ h => ⟨h.1, h.2.1⟩) (.inl fun _ h => ⟨h.1, h.2.1⟩) (fun _ _ _ h => h) (.inl ⟨by rfl, ?hy9⟩) hSS ?_
        case hy9 =>
          intro w' hSw
          try dsimp only at hSw
          go_simp
          all_goals with_reducible rfl
        try simp only [Act.put]
        refine wpAnyB_take (i := 9) (oi := _) (v := ?vv10) (fun w' => w'.cell? ⟨wo.heap.size, 2, none⟩ = some (.int .i64 (i : Int)) ∧ w'.cell? ⟨wo.heap.size, 3, none⟩ = some (.int .i64 (i' : Int))) rfl (by kernel_rfl) (by kernel_rfl) (by kernel_rfl) (by kernel_rfl) (by rfl) (fun _ h => ⟨h.1, h.2.1⟩) (.inl fun _ h => ⟨h.1, h.2.1⟩) (fun _ _ _ h => h) (.inl ⟨by rfl, ?hy10⟩) hSS ?_
        case hy10 =>
          intro w' hSw
          try dsimp only at hSw
          go_simp
          all_goals with_reducible rfl
        try simp only [Act.put]
        refine wpAnyB_take (i := 10) (oi := _) (v := ?vv11) (fun w' => w'.cell? ⟨wo.heap.size, 2, none⟩ = some (.int .i64 (i : Int)) ∧ w'.cell? ⟨wo.heap.size, 3, none⟩ = some (.int .i64 (i' : Int))) rfl (by kernel_rfl) (by kernel_rfl) (by kernel_rfl) (by kernel_rfl) (by rfl) (fun _ h => ⟨h.1, h.2.1⟩) (.inl fun _ h => ⟨h.1, h.2.1⟩) (fun _ _ _ h => h) (.inl ⟨by rfl, ?hy11⟩) hSS ?_
        case hy11 =>
          intro w' hSw
          try dsimp only at hSw
          go_simp
          all_goals with_reducible rfl
        try simp only [Act.put]
        refine wpAnyB_take (i := 11) (oi := _) (v := ?vv12) (fun w' => w'.cell? ⟨wo.heap.size, 2, none⟩ = some (.int .i64 (i : Int)) ∧ w'.cell? ⟨wo.heap.size, 3, none⟩ = some (.int .i64 (i' : Int)) ∧ w'.cell? ⟨bd, od + i, none⟩ = some (.int .i64 va) ∧ w'.cell? ⟨bd, od + i', none⟩ = some (.int .i64 vb)) rfl (by kernel_rfl) (by kernel_rfl) (by kernel_rfl) (by kernel_rfl) (by rfl) (fun _ h => ⟨h.1, h.2.1, h.2.2 rfl⟩) (.inr (by kernel_rfl)) (fun _ _ _ h => h) (.inl ⟨by rfl, ?hy12⟩) hSS ?_
        case hy12 =>
          intro w' hSw
          try dsimp only at hSw
          go_simp
          all_goals with_reducible rfl
        try simp only [Act.put]
        refine wpAnyB_one (i := 12) true rfl (by kernel_rfl) (by kernel_rfl) ?_
        intro KK hKK
        go_simp
        refine (CALL.out _ I1.out).mono ?_
        rintro e w3 ⟨⟨v, rfl⟩, hI3, hB3, hK3⟩
        dsimp only
        refine hKK.out _ _ ⟨(hK3 _ _ _ (.inr rfl) HX1.out).cell 2, (hK3 _ _ _ (.inr rfl) HX1.out).cell 3, fun hh => by cases hh⟩ ?_
        clear hKK KK
        try simp only [Act.put, List.setIfInBounds_toArray, List.set_cons_zero, List.set_cons_succ]
        refine wpAnyB_done (by kernel_rfl) (NoPanic.normal ?_) _
        go_wp2
        go_roundw
        case rel => exact ⟨j + 1, by omega, by go_num, Lib.hid hI3, hK3 _ _ _ (.inl rfl) H1.out.drew, BB.trans hB3⟩
        case measure => first | (simp [intOf]; done) | (simp [intOf]; omega)
      · obtain rfl : j = n := by omega
        go_wp2
        go_ret
        exact ⟨rfl, hb, fun _ => hI.out, fun h => absurd rfl h⟩
  · have HE := Lib.hid hE
    have HR : Hid (∀ w', I 0 w' → (chkE t xs ps ds = 0 → I n w') ∧ (chkE t xs ps ds ≠ 0 → I 0 w')) := fun w' h => ⟨fun h' => absurd h' hE, fun _ => h⟩
    generalize chkE t xs ps ds = r at *
    have hr : (r != 0) = true := by simpa using hE
    clear hE
    go_enter Try.func40, Try.ntmps40
    go_wp2_with fail
    refine (C1.out _ (by go_grown)).mono ?_
    rintro e w1 ⟨rfl, hb1⟩
    have B1 := bvia (show Below w.heap.size w _ by go_grown) hb1
    clear K0 hb1
    go_wp2
    go_ret
    exact ⟨rfl, B1.mono hB0, HR.out _ (HM.out _ _ _ HI.out B1)⟩
end Go.Proofs.Ytnijfkidgndbdaa
