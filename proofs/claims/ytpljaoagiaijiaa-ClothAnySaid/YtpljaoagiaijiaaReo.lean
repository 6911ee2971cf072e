/-
  Contract of torchonref04.Reorder: a valid sheet in an allowed order.
-/
import Derived.Test.YtpljaoagiaijiaaOrd
import Derived.Test.YtpljaoagiaijiaaR04
import Derived.Deep.Cut
namespace Go.Proofs.Ytpljaoagiaijiaa
open Go.RowKit
def labWk (ws : List Wk) (b : Int) : Wk := wAt ws b.toNat
set_option maxRecDepth 100000 in
set_option maxHeartbeats 8000000 in
theorem reorder16 (p : Int) (A D : Option Addr) (k c e : Nat) (ws : List Wk) (ord : List Int) (w : World) (hw : RdW w w.heap.size A ws) (hl : ws.length = k) (hok : SOk p ws) (hd : RdI w w.heap.size D ord) (hord : ordB ws ord = true) (hlk : ord.length = k) :
    Calls Try.prog 16 #[.agg #[.int .i64 p, .slice A k c], .slice D k e] w (RetSE p (reW ws ord) 0 w) := by
  have hk4 : k ≤ 400 := by rw [← hl]; exact hok.len
  have C1 := Lib.hid (fun (W : World) (hb : Below w.heap.size w W) => check04 p A k c ws W (by omega) (hw.up hb) hl (fun x hx => Nat.le_trans (hok.short x hx) (by omega)))
  rw [schk_of hok] at C1
  have C2 := Lib.hid (fun (W : World) (hb : Below w.heap.size w W) => order15 p A D k c k e ws ord W (hw.up hb) hl hok (hd.up hb) hlk (by omega))
  rw [hord] at C2
  have HOR : Hid (∀ (j : Nat) (b : Int), ord[j]? = some b → 0 ≤ b ∧ b < (k : Int)) := fun j b hb => by
    unfold ordB at hord
    have h2 := ((Bool.and_eq_true_iff).1 hord).2
    have hI := List.all_eq_true.1 h2 j (List.mem_range.2 (lt_of_get hb))
    unfold ordI at hI
    have hD : ord.getD j 0 = b := by rw [List.getD_eq_getElem?_getD, hb]; rfl
    rw [hD] at hI
    simp only [Bool.and_eq_true, decide_eq_true_eq] at hI
    exact ⟨hI.1.1.1, by rw [← hl]; exact hI.1.1.2⟩
  have HW := Lib.hid hw
  have HD := Lib.hid hd
  have HL := Lib.hid hl
  have HK := Lib.hid hlk
  clear hw hl hok hd hord hlk
  go_enter Try.func16, Try.ntmps16
  go_wp2_with fail
  refine (C1.out _ (by go_grown)).mono ?_
  rintro e1 w1 ⟨rfl, hb1⟩
  have K1 : Has w1 w.heap.size 24 [.int .i64 p, .slice A k c] := ((Has.new rfl).alloc _).below hb1 (by simp; omega)
  have K2 : Has w1 (w.heap.size + 1) 24 [.int .i64 0, .slice none 0 0] := (Has.new2 rfl).below hb1 (by simp)
  have B1 : Below w.heap.size w w1 := bvia (show Below w.heap.size w _ by go_grown) hb1
  have a0 : w1.cell? ⟨w.heap.size, 0, none⟩ = some (.int .i64 p) := K1.cell 0
  have a1 : w1.cell? ⟨w.heap.size, 1, none⟩ = some (.slice A k c) := K1.cell 1
  have q := K1.lt
  go_wp2_with fail
  refine (C2.out _ B1).mono ?_
  rintro e2 w2 ⟨rfl, hb2⟩
  have L1 := Lib.hid (K1.below hb2 K1.lt)
  have L2 := Lib.hid (K2.below hb2 K2.lt)
  have B2 := bvia B1 hb2
  clear a0 a1 q K1 K2 hb1 hb2 B1
  have a0 : w2.cell? ⟨w.heap.size, 0, none⟩ = some (.int .i64 p) := L1.out.cell 0
  have q := L1.out.lt
  obtain ⟨w3, hw3⟩ : ∃ w3, w3 = w2.alloc (.cells #[.int .i64 p, .slice none 0 0] 24) := ⟨_, rfl⟩
  have hb3 : Below w2.heap.size w2 w3 := by rw [hw3]; go_grown
  have K3 : Has w3 w2.heap.size 24 [.int .i64 p, .slice none 0 0] := by rw [hw3]; exact Has.new rfl
  go_upto_region 7 with (fail)
  rw [← hw3]
  obtain ⟨gO, hgO⟩ : ∃ g, g = w2.heap.size := ⟨_, rfl⟩
  have hwO : w.heap.size + 1 < gO := by rw [hgO]; exact L2.out.lt
  have HB3 : Hid (Below gO w2 w3) := by rw [hgO]; exact hb3
  rw [← hgO] at K3 ⊢
  have HO3 := Lib.hid K3
  have HGO := Lib.hid hgO
  clear hw3 hb3 hgO K3 a0 q
  go_wp2
  go_loopw [8] (fun i wr => ∃ (j : Nat) (X : Option Addr) (cx : Nat), j ≤ k ∧ i = .int .i64 (j : Int) ∧ Hid (Has wr gO 24 [.int .i64 p, .slice X j cx]) ∧ Hid (wr.ownsRow (gO + 1) 52 3 (.slice X j cx) j (wksCells ((ord.take j).map (labWk ws)))) ∧ Hid (Below gO w2 wr)) (fun i _ => k - (intOf i).toNat)
  case atStart => exact ⟨0, none, 0, Nat.zero_le _, rfl, HO3, Lib.hid (World.ownsRow_nil _ _ _ _), HB3⟩
  case round =>
    clear HO3 HB3
    obtain ⟨j, X, cx, hj, rfl, HO, HR, HB⟩ := hrel
    obtain ⟨wo, rfl⟩ : ∃ wo : World, wo = wr := ⟨_, rfl⟩
    have Bo := B2.trans (HB.out.mono (show w.heap.size ≤ gO by omega))
    have qO := HO.out.lt
    have HBX := L1.out.below HB.out (by omega)
    by_cases hlt : j < k
    · obtain ⟨b, hbj⟩ := get_of_lt (l := ord) (k := j) (by rw [HK.out]; exact hlt)
      obtain ⟨b0, b1⟩ := HOR.out j b hbj
      obtain ⟨bn, rfl⟩ := Int.eq_ofNat_of_zero_le b0
      have hbn : bn < k := by omega
      obtain ⟨bd, od, rfl, hbd, cd⟩ := HD.out j _ hbj
      obtain ⟨x, hx⟩ := get_of_lt (l := ws) (k := bn) (by rw [HL.out]; exact hbn)
      obtain ⟨ba, o, rfl, hba, e0, e1, e2⟩ := HW.out bn x hx
      have HKEY : Hid (∀ W, Below gO wo W → W.cell? ⟨w.heap.size, 1, none⟩ = some (.slice (some ⟨ba, o, none⟩) k c) ∧ W.cell? ⟨bd, od + j, none⟩ = some (.int .i64 (bn : Int)) ∧ W.cell? ⟨ba, o + bn * 3, none⟩ = some (.int .i64 x.kind) ∧ W.cell? ⟨ba, o + bn * 3 + 1, none⟩ = some (.int .i64 x.at_) ∧ W.cell? ⟨ba, o + bn * 3 + 2, none⟩ = some (.string x.word)) := fun W hW => by
        have hb := Bo.trans (hW.mono (show w.heap.size ≤ gO by omega))
        exact ⟨(hW.cell (p := ⟨w.heap.size, 1, none⟩) (show w.heap.size < gO by omega)).trans (HBX.cell 1), (hb.cell (p := ⟨bd, od + j, none⟩) hbd).trans cd, (hb.cell (p := ⟨ba, o + bn * 3, none⟩) hba).trans e0, (hb.cell (p := ⟨ba, o + bn * 3 + 1, none⟩) hba).trans e1, (hb.cell (p := ⟨ba, o + bn * 3 + 2, none⟩) hba).trans e2⟩
      obtain ⟨s1, s2, c0, c1, c2⟩ := HKEY.out wo (Below.refl _ _)
      have s3 : wo.cell? ⟨gO, 1, none⟩ = some (.slice X j cx) := HO.out.cell 1
      have HST : Hid ((ord.take (j + 1)).map (labWk ws) = (ord.take j).map (labWk ws) ++ [x]) := by
        show _ = _
        rw [List.take_add_one, hbj, List.map_append]
        have hcn : ((bn : Nat) : Int).toNat = bn := by simp
        have e : labWk ws (bn : Int) = x := by unfold labWk; rw [hcn]; exact wAt_get hx
        rw [Option.toList_some, List.map_cons, List.map_nil, e]
      have jk : (j : Int) < (k : Int) := by omega
      have bk : (bn : Int) < (k : Int) := by omega
      have qw : w.heap.size < wo.heap.size := by omega
      have qd : bd < wo.heap.size := by omega
      have qa : ba < wo.heap.size := by omega
      clear hbj b0 b1 cd hx e0 e1 e2 HBX
      go_upto_region 10 with (fail)
      refine wp_region_noPanic ?_
      refine wp_region_B (fun b w' => w'.cell? ⟨w.heap.size, 1, none⟩ = some (.slice (some ⟨ba, o, none⟩) k c) ∧ w'.cell? ⟨bd, od + j, none⟩ = some (.int .i64 (bn : Int)) ∧ w'.cell? ⟨ba, o + bn * 3, none⟩ = some (.int .i64 x.kind) ∧ w'.cell? ⟨ba, o + bn * 3 + 1, none⟩ = some (.int .i64 x.at_) ∧ w'.cell? ⟨ba, o + bn * 3 + 2, none⟩ = some (.string x.word) ∧ (b = false → w'.cell? ⟨gO, 1, none⟩ = some (.slice X j cx))) 13 (by kernel_rfl) ?_
      have hSSr : (fun b w' => w'.cell? ⟨w.heap.size, 1, none⟩ = some (.slice (some ⟨ba, o, none⟩) k c) ∧ w'.cell? ⟨bd, od + j, none⟩ = some (.int .i64 (bn : Int)) ∧ w'.cell? ⟨ba, o + bn * 3, none⟩ = some (.int .i64 x.kind) ∧ w'.cell? ⟨ba, o + bn * 3 + 1, none⟩ = some (.int .i64 x.at_) ∧ w'.cell? ⟨ba, o + bn * 3 + 2, none⟩ = some (.string x.word) ∧ (b = false → w'.cell? ⟨gO, 1, none⟩ = some (.slice X j cx))) false (wo.drew) := ⟨s1, s2, c0, c1, c2, fun _ => s3⟩
      refine wpAnyB_take (i := 0) (oi := _) (v := ?vvr1) (fun w' => w'.cell? ⟨w.heap.size, 1, none⟩ = some (.slice (some ⟨ba, o, none⟩) k c) ∧ w'.cell? ⟨bd, od + j, none⟩ = some (.int .i64 (bn : Int)) ∧ w'.cell? ⟨ba, o + bn * 3, none⟩ = some (.int .i64 x.kind) ∧ w'.cell? ⟨ba, o + bn * 3 + 1, none⟩ = some (.int .i64 x.at_) ∧ w'.cell? ⟨ba, o + bn * 3 + 2, none⟩ = some (.string x.word)) rfl (by kernel_rfl) (by kernel_rfl) (by kernel_rfl) (by kernel_rfl) (by rfl) (fun _ h => ⟨h.1, h.2.1, h.2.2.1, h.2.2.2.1, h.2.2.2.2.1⟩) (.inl fun _ h => ⟨h.1, h.2.1, h.2.2.1, h.2.2.2.1, h.2.2.2.2.1⟩) (fun _ _ _ h => h) (.inl ⟨by rfl, ?hyr1⟩) hSSr ?_
      case hyr1 =>
        intro w' hSw
        try dsimp only at hSw
        go_simp
        all_goals with_reducible rfl
      try simp only [Act.put, List.setIfInBounds_toArray, List.set_cons_zero, List.set_cons_succ]
      refine wpAnyB_take (i := 1) (oi := _) (v := ?vvr2) (fun w' => w'.cell? ⟨w.heap.size, 1, none⟩ = some (.slice (some ⟨ba, o, none⟩) k c) ∧ w'.cell? ⟨bd, od + j, none⟩ = some (.int .i64 (bn : Int)) ∧ w'.cell? ⟨ba, o + bn * 3, none⟩ = some (.int .i64 x.kind) ∧ w'.cell? ⟨ba, o + bn * 3 + 1, none⟩ = some (.int .i64 x.at_) ∧ w'.cell? ⟨ba, o + bn * 3 + 2, none⟩ = some (.string x.word) ∧ w'.cell? ⟨gO, 1, none⟩ = some (.slice X j cx)) rfl (by kernel_rfl) (by kernel_rfl) (by kernel_rfl) (by kernel_rfl) (by rfl) (fun _ h => ⟨h.1, h.2.1, h.2.2.1, h.2.2.2.1, h.2.2.2.2.1, h.2.2.2.2.2 rfl⟩) (.inr (by kernel_rfl)) (fun _ _ _ h => h) (.inl ⟨by rfl, ?hyr2⟩) hSSr ?_
      case hyr2 =>
        intro w' hSw
        try dsimp only at hSw
        go_simp
        all_goals with_reducible rfl
      try simp only [Act.put, List.setIfInBounds_toArray, List.set_cons_zero, List.set_cons_succ]
      refine wpAnyB_take (i := 2) (oi := _) (v := ?vvr3) (fun w' => w'.cell? ⟨w.heap.size, 1, none⟩ = some (.slice (some ⟨ba, o, none⟩) k c) ∧ w'.cell? ⟨bd, od + j, none⟩ = some (.int .i64 (bn : Int)) ∧ w'.cell? ⟨ba, o + bn * 3, none⟩ = some (.int .i64 x.kind) ∧ w'.cell? ⟨ba, o + bn * 3 + 1, none⟩ = some (.int .i64 x.at_) ∧ w'.cell? ⟨ba, o + bn * 3 + 2, none⟩ = some (.string x.word)) rfl (by kernel_rfl) (by kernel_rfl) (by kernel_rfl) (by kernel_rfl) (by rfl) (fun _ h => ⟨h.1, h.2.1, h.2.2.1, h.2.2.2.1, h.2.2.2.2.1⟩) (.inl fun _ h => ⟨h.1, h.2.1, h.2.2.1, h.2.2.2.1, h.2.2.2.2.1⟩) (fun _ _ _ h => h) (.inl ⟨by rfl, ?hyr3⟩) hSSr ?_
      case hyr3 =>
        intro w' hSw
        try dsimp only at hSw
        go_simp
        all_goals with_reducible rfl
      try simp only [Act.put, List.setIfInBounds_toArray, List.set_cons_zero, List.set_cons_succ]
      refine wpAnyB_take (i := 3) (oi := _) (v := ?vvr4) (fun w' => w'.cell? ⟨w.heap.size, 1, none⟩ = some (.slice (some ⟨ba, o, none⟩) k c) ∧ w'.cell? ⟨bd, od + j, none⟩ = some (.int .i64 (bn : Int)) ∧ w'.cell? ⟨ba, o + bn * 3, none⟩ = some (.int .i64 x.kind) ∧ w'.cell? ⟨ba, o + bn * 3 + 1, none⟩ = some (.int .i64 x.at_) ∧ w'.cell? ⟨ba, o + bn * 3 + 2, none⟩ = some (.string x.word)) rfl (by kernel_rfl) (by kernel_rfl) (by kernel_rfl) (by kernel_rfl) (by rfl) (fun _ h => ⟨h.1, h.2.1, h.2.2.1, h.2.2.2.1, h.2.2.2.2.1⟩) (.inl fun _ h => ⟨h.1, h.2.1, h.2.2.1, h.2.2.2.1, h.2.2.2.2.1⟩) (fun _ _ _ h => h) (.inl ⟨by rfl, ?hyr4⟩) hSSr ?_
      case hyr4 =>
        intro w' hSw
        try dsimp only at hSw
        go_simp
        all_goals with_reducible rfl
      try simp only [Act.put, List.setIfInBounds_toArray, List.set_cons_zero, List.set_cons_succ]
      refine wpAnyB_take (i := 4) (oi := _) (v := ?vvr5) (fun w' => w'.cell? ⟨w.heap.size, 1, none⟩ = some (.slice (some ⟨ba, o, none⟩) k c) ∧ w'.cell? ⟨bd, od + j, none⟩ = some (.int .i64 (bn : Int)) ∧ w'.cell? ⟨ba, o + bn * 3, none⟩ = some (.int .i64 x.kind) ∧ w'.cell? ⟨ba, o + bn * 3 + 1, none⟩ = some (.int .i64 x.at_) ∧ w'.cell? ⟨ba, o + bn * 3 + 2, none⟩ = some (.string x.word)) rfl (by kernel_rfl) (by kernel_rfl) (by kernel_rfl) (by kernel_rfl) (by rfl) (fun _ h => ⟨h.1, h.2.1, h.2.2.1, h.2.2.2.1, h.2.2.2.2.1⟩) (.inl fun _ h => ⟨h.1, h.2.1, h.2.2.1, h.2.2.2.1, h.2.2.2.2.1⟩) (fun _ _ _ h => h) (.inl ⟨by rfl, ?hyr5⟩) hSSr ?_
      case hyr5 =>
        intro w' hSw
        try dsimp only at hSw
        go_simp
        all_goals with_reducible rfl
      try simp only [Act.put, List.setIfInBounds_toArray, List.set_cons_zero, List.set_cons_succ]
      refine wpAnyB_take (i := 5) (oi := _) (v := ?vvr6) (fun w' => w'.cell? ⟨w.heap.size, 1, none⟩ = some (.slice (some ⟨ba, o, none⟩) k c) ∧ w'.cell? ⟨bd, od + j, none⟩ = some (.int .i64 (bn : Int)) ∧ w'.cell? ⟨ba, o + bn * 3, none⟩ = some (.int .i64 x.kind) ∧ w'.cell? ⟨ba, o + bn * 3 + 1, none⟩ = some (.int .i64 x.at_) ∧ w'.cell? ⟨ba, o + bn * 3 + 2, none⟩ = some (.string x.word)) rfl (by kernel_rfl) (by kernel_rfl) (by kernel_rfl) (by kernel_rfl) (by rfl) (fun _ h => ⟨h.1, h.2.1, h.2.2.1, h.2.2.2.1, h.2.2.2.2.1⟩) (.inl fun _ h => ⟨h.1, h.2.1, h.2.2.1, h.2.2.2.1, h.2.2.2.2.1⟩) (fun _ _ _ h => h) (.inl ⟨by rfl, ?hyr6⟩) hSSr ?_
      case hyr6 =>
        intro w' hSw
        try dsimp only at hSw
        go_simp
        all_goals with_reducible rfl
      try simp only [Act.put, List.setIfInBounds_toArray, List.set_cons_zero, List.set_cons_succ]
      refine wpAnyB_take (i := 6) (oi := _) (v := ?vvr7) (fun w' => w'.cell? ⟨w.heap.size, 1, none⟩ = some (.slice (some ⟨ba, o, none⟩) k c) ∧ w'.cell? ⟨bd, od + j, none⟩ = some (.int .i64 (bn : Int)) ∧ w'.cell? ⟨ba, o + bn * 3, none⟩ = some (.int .i64 x.kind) ∧ w'.cell? ⟨ba, o + bn * 3 + 1, none⟩ = some (.int .i64 x.at_) ∧ w'.cell? ⟨ba, o + bn * 3 + 2, none⟩ = some (.string x.word)) rfl (by kernel_rfl) (by kernel_rfl) (by kernel_rfl) (by kernel_rfl) (by rfl) (fun _ h => ⟨h.1, h.2.1, h.2.2.1, h.2.2.2.1, h.2.2.2.2.1⟩) (.inl fun _ h => ⟨h.1, h.2.1, h.2.2.1, h.2.2.2.1, h.2.2.2.2.1⟩) (fun _ _ _ h => h) (.inl ⟨by rfl, ?hyr7⟩) hSSr ?_
      case hyr7 =>
        intro w' hSw
        try dsimp only at hSw
        go_simp
        all_goals with_reducible rfl
      try simp only [Act.put, List.setIfInBounds_toArray, List.set_cons_zero, List.set_cons_succ]
      refine wpAnyB_take (i := 7) (oi := _) (v := ?vvr8) (fun w' => w'.cell? ⟨w.heap.size, 1, none⟩ = some (.slice (some ⟨ba, o, none⟩) k c) ∧ w'.cell? ⟨bd, od + j, none⟩ = some (.int .i64 (bn : Int)) ∧ w'.cell? ⟨ba, o + bn * 3, none⟩ = some (.int .i64 x.kind) ∧ w'.cell? ⟨ba, o + bn * 3 + 1, none⟩ = some (.int .i64 x.at_) ∧ w'.cell? ⟨ba, o + bn * 3 + 2, none⟩ = some (.string x.word)) rfl (by kernel_rfl) (by kernel_rfl) (by kernel_rfl) (by kernel_rfl) (by rfl) (fun _ h => ⟨h.1, h.2.1, h.2.2.1, h.2.2.2.1, h.2.2.2.2.1⟩) (.inl fun _ h => ⟨h.1, h.2.1, h.2.2.1, h.2.2.2.1, h.2.2.2.2.1⟩) (fun _ _ _ h => h) (.inl ⟨by rfl, ?hyr8⟩) hSSr ?_
      case hyr8 =>
        intro w' hSw
        try dsimp only at hSw
        go_simp
        all_goals with_reducible rfl
      try simp only [Act.put, List.setIfInBounds_toArray, List.set_cons_zero, List.set_cons_succ]
      refine wpAnyB_take (i := 8) (oi := _) (v := ?vvr9) (fun w' => w'.cell? ⟨w.heap.size, 1, none⟩ = some (.slice (some ⟨ba, o, none⟩) k c) ∧ w'.cell? ⟨bd, od + j, none⟩ = some (.int .i64 (bn : Int)) ∧ w'.cell? ⟨ba, o + bn * 3, none⟩ = some (.int .i64 x.kind) ∧ w'.cell? ⟨ba, o + bn * 3 + 1, none⟩ = some (.int .i64 x.at_) ∧ w'.cell? ⟨ba, o + bn * 3 + 2, none⟩ = some (.string x.word)) rfl (by kernel_rfl) (by kernel_rfl) (by kernel_rfl) (by kernel_rfl) (by rfl) (fun _ h => ⟨h.1, h.2.1, h.2.2.1, h.2.2.2.1, h.2.2.2.2.1⟩) (.inl fun _ h => ⟨h.1, h.2.1, h.2.2.1, h.2.2.2.1, h.2.2.2.2.1⟩) (fun _ _ _ h => h) (.inl ⟨by rfl, ?hyr9⟩) hSSr ?_
      case hyr9 =>
        intro w' hSw
        try dsimp only at hSw
        go_simp
        all_goals with_reducible rfl
      try simp only [Act.put, List.setIfInBounds_toArray, List.set_cons_zero, List.set_cons_succ]
      refine wpAnyB_take (i := 9) (oi := _) (v := ?vvr10) (fun w' => w'.cell? ⟨w.heap.size, 1, none⟩ = some (.slice (some ⟨ba, o, none⟩) k c) ∧ w'.cell? ⟨bd, od + j, none⟩ = some (.int .i64 (bn : Int)) ∧ w'.cell? ⟨ba, o + bn * 3, none⟩ = some (.int .i64 x.kind) ∧ w'.cell? ⟨ba, o + bn * 3 + 1, none⟩ = some (.int .i64 x.at_) ∧ w'.cell? ⟨ba, o + bn * 3 + 2, none⟩ = some (.string x.word)) rfl (by kernel_rfl) (by kernel_rfl) (by kernel_rfl) (by kernel_rfl) (by rfl) (fun _ h => ⟨h.1, h.2.1, h.2.2.1, h.2.2.2.1, h.2.2.2.2.1⟩) (.inl fun _ h => ⟨h.1, h.2.1, h.2.2.1, h.2.2.2.1, h.2.2.2.2.1⟩) (fun _ _ _ h => h) (.inl ⟨by rfl, ?hyr10⟩) hSSr ?_
      case hyr10 =>
        intro w' hSw
        try dsimp only at hSw
        go_simp
        all_goals with_reducible rfl
      try simp only [Act.put, List.setIfInBounds_toArray, List.set_cons_zero, List.set_cons_succ]
      refine wpAnyB_one (i := 10) false rfl (by kernel_rfl) (by kernel_rfl) ?_
      intro KK hKK
      go_simp
      generalize hW2 : (wo.alloc (.cells #[.int .i64 x.kind, .int .i64 x.at_, .string x.word] 52)).drew = W2
      have hB2 : Below wo.heap.size wo W2 := by rw [← hW2]; exact ((Below.refl _ wo).alloc (Nat.le_refl _) _).drew
      have k2 := HKEY.out W2 (hB2.mono (Nat.le_of_lt qO))
      have hO2 := HO.out.below hB2 HO.out.lt
      have hr2 := own_below HR.out hB2
      have hn2 : ∀ p u, ([.int .i64 x.kind, .int .i64 x.at_, .string x.word] : List Value)[p]? = some u → W2.cell? ⟨wo.heap.size, p, none⟩ = some u := fun p u hu => by rw [← hW2]; exact ((Has.new (w := wo) (t := 52) (cs := [.int .i64 x.kind, .int .i64 x.at_, .string x.word]) rfl).drew.cell p).trans hu
      have hsz2 : gO + 1 ≤ W2.heap.size := Nat.le_trans (show gO + 1 ≤ wo.heap.size from qO) hB2.size
      clear hW2
      refine hKK.out _ _ ⟨k2.1, k2.2.1, k2.2.2.1, k2.2.2.2.1, k2.2.2.2.2, fun _ => hO2.cell 1⟩ ?_
      clear hKK KK
      try simp only [Act.put, List.setIfInBounds_toArray, List.set_cons_zero, List.set_cons_succ]
      refine wpAnyB_one (i := 11) false rfl (by kernel_rfl) (by kernel_rfl) ?_
      intro KK hKK
      refine step_appN rfl (.tmp 30) (.tmp 39) 22 rfl (gO + 1) 52 (.agg #[.int .i64 0, .int .i64 0, .string ⟨#[]⟩]) 3 32 Try.underlying22 infoWk rfl (by omega) (by omega) (.slice X j cx) j (wksCells ((ord.take j).map (labWk ws))) rfl hr2 ⟨wo.heap.size, 0, none⟩ 1 1 [.int .i64 x.kind, .int .i64 x.at_, .string x.word] rfl rfl (fun j u hu => by rw [Addr.add_lit, Nat.zero_add]; exact hn2 j u hu) (one_wk x) (by omega) hsz2 ?_
      intro v' w4 hown4 hgrow4 hnil4 hor4
      obtain ⟨A4, c4, rfl⟩ := own_form hown4
      have hO4 : Has w4 gO _ _ := hO2.same (hgrow4.block _ hO2.lt (fun e => (hO2.ne_own hr2 (by decide)) e.symm))
      have hB4 : Below gO wo w4 := (hB2.mono (Nat.le_of_lt qO)).grown hgrow4 (Nat.le_of_lt hO2.lt) (fun r hr => by have := (hr2.lt r hr).1; omega)
      have k4 := HKEY.out w4 hB4
      refine hKK.out _ _ ⟨k4.1, k4.2.1, k4.2.2.1, k4.2.2.2.1, k4.2.2.2.2, fun _ => hO4.cell 1⟩ ?_
      clear hKK KK
      try simp only [Act.put, List.setIfInBounds_toArray, List.set_cons_zero, List.set_cons_succ]
      refine wpAnyB_take (i := 12) (oi := _) (v := ?vvr11) (fun w' => w'.cell? ⟨w.heap.size, 1, none⟩ = some (.slice (some ⟨ba, o, none⟩) k c) ∧ w'.cell? ⟨bd, od + j, none⟩ = some (.int .i64 (bn : Int)) ∧ w'.cell? ⟨ba, o + bn * 3, none⟩ = some (.int .i64 x.kind) ∧ w'.cell? ⟨ba, o + bn * 3 + 1, none⟩ = some (.int .i64 x.at_) ∧ w'.cell? ⟨ba, o + bn * 3 + 2, none⟩ = some (.string x.word)) rfl (by kernel_rfl) (by kernel_rfl) (by kernel_rfl) (by kernel_rfl) (by rfl) (fun _ h => ⟨h.1, h.2.1, h.2.2.1, h.2.2.2.1, h.2.2.2.2.1⟩) (.inl fun _ h => ⟨h.1, h.2.1, h.2.2.1, h.2.2.2.1, h.2.2.2.2.1⟩) (fun _ _ _ h => h) (.inl ⟨by rfl, ?hyr11⟩) ⟨k4.1, k4.2.1, k4.2.2.1, k4.2.2.2.1, k4.2.2.2.2, fun _ => hO4.cell 1⟩ ?_
      case hyr11 =>
        intro w' hSw
        try dsimp only at hSw
        go_simp
        all_goals with_reducible rfl
      try simp only [Act.put, List.setIfInBounds_toArray, List.set_cons_zero, List.set_cons_succ]
      refine wpAnyB_one (i := 13) true rfl (by kernel_rfl) (by kernel_rfl) ?_
      intro KK hKK
      have f4 := hO4.free 1
      have q4 := hO4.lt
      have s4 : w4.cell? ⟨gO, 1, none⟩ = some (.slice X j cx) := hO4.cell 1
      have k5 := HKEY.out (w4.setCell ⟨gO, 1, none⟩ (.slice A4 (j + 1) c4)) (hB4.setCell (Nat.le_refl _) _)
      go_simp
      refine hKK.out _ _ ⟨k5.1, k5.2.1, k5.2.2.1, k5.2.2.2.1, k5.2.2.2.2, fun hh => by cases hh⟩ ?_
      clear hKK KK
      try simp only [Act.put, List.setIfInBounds_toArray, List.set_cons_zero, List.set_cons_succ]
      refine wpAnyB_done (by kernel_rfl) (NoPanic.normal ?_) _
      have hO5 := Lib.hid (hO4.set 1 (.slice A4 (j + 1) c4))
      have hR5 := (But.set gO w4 1 (.slice A4 (j + 1) c4)).own hown4 (hO4.ne_own hown4 (by decide))
      have hB5 := HB.out.trans (hB4.setCell (Nat.le_refl _) (.slice A4 (j + 1) c4) (p := ⟨gO, 1, none⟩))
      have e5 : wksCells ((ord.take j).map (labWk ws)) ++ [.int .i64 x.kind, .int .i64 x.at_, .string x.word] = wksCells ((ord.take (j + 1)).map (labWk ws)) := by rw [HST.out, wksCells_app]; rfl
      rw [e5] at hR5
      have HR5 := Lib.hid hR5
      have HB5 := Lib.hid hB5
      clear hO4 hB4 hown4 hgrow4 k2 k4 k5 hO2 hr2 hn2 hsz2 hB2 hR5 hB5 e5 f4 q4 s4 hnil4 hor4 s1 s2 s3 c0 c1 c2
      go_wp2
      go_roundw
      case rel => exact ⟨j + 1, A4, c4, by omega, by go_num, Lib.hid (by first | exact hO5.out | exact hO5.out.drew), Lib.hid (by first | exact HR5.out | exact own_below HR5.out (Below.drew (Below.refl _ _))), Lib.hid (by first | exact HB5.out | exact HB5.out.drew)⟩
      case measure => first | (simp [intOf]; done) | (simp [intOf]; omega)
    · obtain rfl : k = j := by omega
      have M2 := L2.out.below HB.out hwO
      have y0 : wo.cell? ⟨gO, 0, none⟩ = some (.int .i64 p) := HO.out.cell 0
      have y1 : wo.cell? ⟨gO, 1, none⟩ = some (.slice X k cx) := HO.out.cell 1
      have z0 : wo.cell? ⟨w.heap.size + 1, 0, none⟩ = some (.int .i64 0) := M2.cell 0
      have z1 : wo.cell? ⟨w.heap.size + 1, 1, none⟩ = some (.slice none 0 0) := M2.cell 1
      have f0 := M2.free 0
      have f1 := M2.free 1
      have qm := M2.lt
      have HRE : Hid ((ord.take k).map (labWk ws) = reW ws ord) := by show _ = _; rw [List.take_of_length_le (by rw [HK.out]; exact Nat.le_refl _)]; rfl
      go_wp2
      have M3 := (M2.set 0 (.int .i64 p)).set 1 (.slice X k cx)
      have hBt := (But.set (w.heap.size + 1) wo 0 (.int .i64 p)).trans (But.set (w.heap.size + 1) _ 1 (.slice X k cx))
      have hrow := hBt.own HR.out (M2.ne_own HR.out (by decide))
      rw [HRE.out] at hrow
      have hcx := own_caps hrow
      refine post_cell_tmp M3 rfl rfl rfl rfl Try.underlying24 (by kernel_rfl) ⟨X, k, cx, rfl, own_rdW hrow, by unfold reW; rw [List.length_map]; exact HK.out, hcx.1, hcx.2, ?_⟩
      exact Bo.trans (hBt.below (by omega) (by omega))
end Go.Proofs.Ytpljaoagiaijiaa
