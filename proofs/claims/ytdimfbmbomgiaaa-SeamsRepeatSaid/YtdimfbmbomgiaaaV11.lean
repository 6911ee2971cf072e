/-
  Contracts of seams.Knots and torchonref24.Knots.
-/
import Derived.Test.YtdimfbmbomgiaaaV4
import Derived.Test.YtdimfbmbomgiaaaV5
import Derived.Test.YtdimfbmbomgiaaaV8
import Derived.Test.YtdimfbmbomgiaaaV10
import Derived.Deep.RegionHeld3
import Derived.Deep.Cut
namespace Go.Proofs.Ytdimfbmbomgiaaa
open Go.RowKit
set_option maxRecDepth 100000 in
set_option maxHeartbeats 2000000 in
theorem knots14 (p : Int) (A : Option Addr) (n c : Nat) (h : Int) (ws : List Wk) (w : World) (hn : n ≤ 9223372036854775807) (hw : RdW w w.heap.size A ws) (hl : ws.length = n)
    (hs : ∀ x ∈ ws, x.word.size ≤ 9223372036854775807) :
    Calls Try.prog 14 #[.agg #[.int .i64 p, .slice A n c], .int .i64 h] w (RetKE (knR p ws h) (kcR p ws h) (seE p ws h) w) := by
  have CA := Lib.hid (fun (W : World) (hb : Below w.heap.size w W) => asked31 p A n c h ws W hn (hw.up hb) hl hs)
  have K0 : Has (w.alloc (.cells #[.int .i64 p, .slice A n c] 24)) w.heap.size 24 [.int .i64 p, .slice A n c] := Has.new rfl
  by_cases hE : seE p ws h = 0
  case neg =>
    have e1 : knR p ws h = [] := by unfold knR; rw [if_neg hE]
    have e2 : kcR p ws h = 0 := by unfold kcR; rw [if_neg hE]
    rw [e1, e2]
    have hd : (seE p ws h != 0) = true := by simpa using hE
    generalize seE p ws h = q at *
    clear hE e1 e2 hw hl hs
    go_enter Try.func14, Try.ntmps14
    go_wp2_with fail
    refine (CA.out _ (by go_grown)).mono ?_
    rintro e w1 ⟨rfl, hb1⟩
    have B1 : Below w.heap.size w w1 := bvia (show Below w.heap.size w _ by go_grown) hb1
    go_wp2
    refine bodyPost_ret (results_tmp3 rfl _ _ _) rfl ?_
    exact ⟨none, 0, 0, rfl, fun k x hx => by simp at hx, rfl, Nat.le_refl _, by omega, B1⟩
  obtain ⟨g1, g2, g3⟩ := seE_zero hE
  have HOK := Lib.hid (schk_zero g1)
  obtain ⟨P, rfl⟩ := Int.eq_ofNat_of_zero_le (show 0 ≤ p by have := HOK.out.ge; omega)
  obtain ⟨H, rfl⟩ := Int.eq_ofNat_of_zero_le g2
  have e1 : knR (P : Int) ws (H : Int) = knotL P H := by unfold knR; rw [if_pos hE]; simp
  have e2 : kcR (P : Int) ws (H : Int) = ((H * (P - H) : Nat) : Int) := by unfold kcR; rw [if_pos hE]; simp
  rw [e1, e2]
  rw [hE] at CA ⊢
  have hP : 2 ≤ P ∧ P ≤ 24 ∧ H < P := by have := HOK.out.ge; have := HOK.out.le; omega
  have hmk := mkKn P (by omega)
  have hHP : H * (P - H) ≤ 24 * 24 := Nat.mul_le_mul (by omega) (by omega)
  have eHP : (H : Int) * ((P : Int) - (H : Int)) = ((H * (P - H) : Nat) : Int) := by
    rw [show (P : Int) - (H : Int) = ((P - H : Nat) : Int) by omega, Int.natCast_mul]
  have i5 : IntKind.i64.wrap ((P : Int) - (H : Int)) = (P : Int) - (H : Int) := IntWalk.i64_in _ (by omega)
  have i6 : IntKind.i64.wrap ((H : Int) * ((P : Int) - (H : Int))) = (H : Int) * ((P : Int) - (H : Int)) := by rw [eHP]; exact IntWalk.i64_in _ (by omega)
  have HEHP := Lib.hid eHP
  clear hE e1 e2 g1 g2 g3 hw hl hs hHP eHP
  go_enter Try.func14, Try.ntmps14
  go_wp2_with fail
  refine (CA.out _ (by go_grown)).mono ?_
  rintro e w1 ⟨rfl, hb1⟩
  have HB := Lib.hid (bvia (show Below w.heap.size w _ by go_grown) hb1)
  have HK := Lib.hid (K0.below hb1 K0.lt)
  have n0 : w1.cell? ⟨w.heap.size, 0, none⟩ = some (.int .i64 (P : Int)) := HK.out.cell 0
  have q0 := HK.out.lt
  clear K0 hb1
  go_wp2
  go_loopw [21] (fun v wr => ∃ j : Nat, j ≤ P ∧ v = .int .i64 (j : Int) ∧ Hid (∃ rest : List Value, rest.length = (P - j) * 2 ∧ Has wr w1.heap.size 40 (knsC ((knotL P H).take j) ++ rest)) ∧ Hid (Below w1.heap.size w1 wr)) (fun v _ => P - (intOf v).toNat)
  case atStart =>
    refine ⟨0, Nat.zero_le _, rfl, ⟨List.replicate (P * 2) (vInt 0), by rw [List.length_replicate]; rfl, Has.new rfl⟩, ?_⟩
    show Below _ _ _
    go_grown
  case round =>
    clear n0 hmk
    obtain ⟨j, hj, rfl, HS, HB1⟩ := hrel
    obtain ⟨wo, rfl⟩ : ∃ wo : World, wo = wr := ⟨_, rfl⟩
    have HK1 := Lib.hid (HK.out.below HB1.out q0)
    have n0 : wo.cell? ⟨w.heap.size, 0, none⟩ = some (.int .i64 (P : Int)) := HK1.out.cell 0
    have q1 := HK1.out.lt
    by_cases hlt : j < P
    · have jk : (j : Int) < (P : Int) := by omega
      obtain ⟨rest, hrl, hG⟩ := HS.out
      obtain ⟨r0, r1, rs, rfl⟩ : ∃ r0 r1 rs, rest = r0 :: r1 :: rs := by
        match rest, hrl with
        | [], h => simp at h; omega
        | [_], h => simp at h; omega
        | a :: b :: r, _ => exact ⟨a, b, r, rfl⟩
      have hkl : (knsC ((knotL P H).take j)).length = j * 2 := by rw [knsC_len, List.length_take, knotL_len]; omega
      have c0 : wo.cell? ⟨w1.heap.size, j * 2, none⟩ = some r0 := by
        rw [hG.cell, List.getElem?_append_right (by omega), hkl, Nat.sub_self]; rfl
      have c1 : wo.cell? ⟨w1.heap.size, j * 2 + 1, none⟩ = some r1 := by
        rw [hG.cell, List.getElem?_append_right (by omega), hkl, show j * 2 + 1 - j * 2 = 1 by omega]; rfl
      have f0 := hG.free (j * 2)
      have f1 := hG.free (j * 2 + 1)
      have qg := hG.lt
      have i0 : IntKind.i64.wrap ((j : Int) + (H : Int)) = (j : Int) + (H : Int) := IntWalk.i64_in _ (by omega)
      have i1 : (0 : Int) ≤ (j : Int) + (H : Int) := by omega
      have i2 : ¬ P = 0 := by omega
      have HG := Lib.hid hG; have HRL := Lib.hid hrl; have HKL := Lib.hid hkl
      clear hG hrl hkl
      go_wp2
      go_roundw
      case rel =>
        refine ⟨j + 1, by omega, by go_num, ⟨rs, by have := HRL.out; simp at this; omega, ?_⟩, (HB1.out.setCell (Nat.le_refl _) _).setCell (Nat.le_refl _) _⟩
        have h1 := (HG.out.set (j * 2) (vInt (j : Int))).set (j * 2 + 1) (vInt ((((j + H) % P : Nat)) : Int))
        rw [List.set_append_right _ _ (by rw [HKL.out]; exact Nat.le_refl _), HKL.out, Nat.sub_self, List.set_append_right _ _ (by rw [HKL.out]; omega), HKL.out, show j * 2 + 1 - j * 2 = 1 by omega] at h1
        have e : ((j : Int) + (H : Int)) % (P : Int) = (((j + H) % P : Nat) : Int) := by rw [Int.natCast_emod]; congr 1
        rw [e, knot_take hlt, knsC_app, List.append_assoc]
        exact h1
      case measure => first | (simp [intOf]; done) | (simp [intOf]; omega)
    · obtain rfl : j = P := by omega
      go_wp2
      go_region_held3 (fun W' => W'.cell? ⟨w.heap.size, 0, none⟩ = some (.int .i64 (j : Int))) (first | exact n0 | go_keep) (fail)
      go_wp2
      refine bodyPost_ret (results_tmp3 rfl _ _ _) rfl ?_
      obtain ⟨rest, hrl, hG⟩ := HS.out
      rw [List.take_of_length_le (by rw [knotL_len]; exact Nat.le_refl _)] at hG
      refine ⟨some ⟨w1.heap.size, 0, none⟩, j, j, ?_, rdK_has hG.drew, knotL_len _ _, Nat.le_refl _, by omega, (bvia HB.out HB1.out).drew⟩
      rw [← HEHP.out]; rfl
set_option maxRecDepth 100000 in
set_option maxHeartbeats 4000000 in
theorem knots15 (p : Int) (A : Option Addr) (n c : Nat) (h : Int) (ws : List Wk) (w : World) (hn : n ≤ 9223372036854775807) (hw : RdW w w.heap.size A ws) (hl : ws.length = n)
    (hs : ∀ x ∈ ws, x.word.size ≤ 9223372036854775807) :
    Calls Try.prog 15 #[.agg #[.int .i64 p, .slice A n c], .int .i64 h] w (RetKE (knR p ws h) (kcR p ws h) (seE p ws h) w) := by
  have CA := Lib.hid (fun (W : World) (hb : Below w.heap.size w W) => asked32 p A n c h ws W hn (hw.up hb) hl hs)
  have K0 : Has (w.alloc (.cells #[.int .i64 p, .slice A n c] 24)) w.heap.size 24 [.int .i64 p, .slice A n c] := Has.new rfl
  by_cases hE : seE p ws h = 0
  case neg =>
    have e1 : knR p ws h = [] := by unfold knR; rw [if_neg hE]
    have e2 : kcR p ws h = 0 := by unfold kcR; rw [if_neg hE]
    rw [e1, e2]
    have hd : (seE p ws h != 0) = true := by simpa using hE
    generalize seE p ws h = q at *
    clear hE e1 e2 hw hl hs
    go_enter Try.func15, Try.ntmps15
    go_wp2_with fail
    refine (CA.out _ (by go_grown)).mono ?_
    rintro e w1 ⟨rfl, hb1⟩
    have B1 : Below w.heap.size w w1 := bvia (show Below w.heap.size w _ by go_grown) hb1
    go_wp2
    refine bodyPost_ret (results_tmp3 rfl _ _ _) rfl ?_
    exact ⟨none, 0, 0, rfl, fun k x hx => by simp at hx, rfl, Nat.le_refl _, by omega, B1⟩
  obtain ⟨g1, g2, g3⟩ := seE_zero hE
  have HOK := Lib.hid (schk_zero g1)
  obtain ⟨P, rfl⟩ := Int.eq_ofNat_of_zero_le (show 0 ≤ p by have := HOK.out.ge; omega)
  obtain ⟨H, rfl⟩ := Int.eq_ofNat_of_zero_le g2
  have e1 : knR (P : Int) ws (H : Int) = knotL P H := by unfold knR; rw [if_pos hE]; simp
  have e2 : kcR (P : Int) ws (H : Int) = ((H * (P - H) : Nat) : Int) := by unfold kcR; rw [if_pos hE]; simp
  rw [e1, e2]
  rw [hE] at CA ⊢
  have hP : 2 ≤ P ∧ P ≤ 24 ∧ H < P := by have := HOK.out.ge; have := HOK.out.le; omega
  clear hE e1 e2 g1 g2 g3 hw hl hs
  go_enter Try.func15, Try.ntmps15
  go_wp2_with fail
  refine (CA.out _ (by go_grown)).mono ?_
  rintro e w1 ⟨rfl, hb1⟩
  have HB := Lib.hid (bvia (show Below w.heap.size w _ by go_grown) hb1)
  have HK := Lib.hid (K0.below hb1 K0.lt)
  have n0 : w1.cell? ⟨w.heap.size, 0, none⟩ = some (.int .i64 (P : Int)) := HK.out.cell 0
  have q0 := HK.out.lt
  clear K0 hb1
  go_wp2
  go_loopw [8, 9, 10] (fun u v x wr => ∃ (j : Nat) (X : Option Addr) (d : Nat), j ≤ P ∧ x = .int .i64 (j : Int) ∧ u = .slice X j d ∧ v = .int .i64 ((crossN P H j 0 : Nat) : Int) ∧ Hid (wr.ownsRow w1.heap.size 40 2 (.slice X j d) j (knsC ((knotL P H).take j))) ∧ Hid (Below w1.heap.size w1 wr)) (fun _ _ x _ => P - (intOf x).toNat)
  case atStart => exact ⟨0, none, 0, Nat.zero_le _, rfl, rfl, by rw [crossN_zero P H (by omega)]; rfl, World.ownsRow_nil _ _ _ _, Below.refl _ _⟩
  case round =>
    clear n0
    obtain ⟨j, X, d, hj, rfl, rfl, rfl, HO, HB1⟩ := hrel
    obtain ⟨wo, rfl⟩ : ∃ wo : World, wo = wr := ⟨_, rfl⟩
    have HK1 := Lib.hid (HK.out.below HB1.out q0)
    have n0 : wo.cell? ⟨w.heap.size, 0, none⟩ = some (.int .i64 (P : Int)) := HK1.out.cell 0
    have q1 := HK1.out.lt
    have hsz := HB1.out.size
    by_cases hlt : j < P
    · have jk : (j : Int) < (P : Int) := by omega
      have i0 : IntKind.i64.wrap ((j : Int) + (H : Int)) = (j : Int) + (H : Int) := IntWalk.i64_in _ (by omega)
      have i1 : (0 : Int) ≤ (j : Int) + (H : Int) := by omega
      have i2 : ¬ P = 0 := by omega
      have HE : Hid (((j : Int) + (H : Int)) % (P : Int) = (((j + H) % P : Nat) : Int)) := by show _ = _; rw [Int.natCast_emod]; congr 1
      have HNW : Hid (∀ (i : Nat) u, ([vNat j, vInt (((j : Int) + (H : Int)) % (P : Int))] : List Value)[i]? = some u → (wo.alloc (.cells #[.int .i64 (j : Int), .int .i64 (((j : Int) + (H : Int)) % (P : Int))] 40)).cell? ⟨wo.heap.size, i, none⟩ = some u) := fun i u hu => by
        match i, hu with
        | 0, hu => simp at hu; subst hu; go_simp
        | 1, hu => simp at hu; subst hu; go_simp
        | i + 2, hu => simp at hu
      go_wp2_with (at_builtin; (refine wpList_app rfl (.tmp 24) (.tmp 33) _ rfl w1.heap.size 40 (.agg #[.int .i64 0, .int .i64 0]) 2 16 Try.underlying32 infoKn rfl (by omega) (by omega) _ _ _ rfl (HO.out.alloc _) wo.heap.size [vNat j, vInt (((j : Int) + (H : Int)) % (P : Int))] rfl rfl HNW.out (fun u hu => by simp at hu; rcases hu with rfl | rfl <;> rfl) (by omega) (by first | (simp; done) | (simp; omega)) ?_; intro ga cap1 w2 hg1 hown1 hgrow1 hor1))
      have hgz := hown1.lt ga rfl
      have B2 : Hid (Below w1.heap.size w1 w2) := (HB1.out.alloc hsz _).grown hgrow1 (Nat.le_trans hsz (by first | (simp; done) | (simp; omega))) (fun kk hk => (HO.out.lt kk hk).1)
      have HO2 : Hid (w2.ownsRow w1.heap.size 40 2 (.slice (some ⟨ga, 0, none⟩) (j + 1) cap1) (j + 1) (knsC ((knotL P H).take (j + 1)))) := by
        show World.ownsRow _ _ _ _ _ _ _
        rw [knot_take hlt, knsC_app]
        have h1 := hown1
        rw [HE.out] at h1
        exact h1
      clear hown1 hgrow1 hor1 HNW n0 HK1 q1 HO HB1 hgz i0 i1 i2 HE hsz
      go_loopw [9, 11] (fun u v wr => ∃ k : Nat, k ≤ j ∧ u = .int .i64 ((crossN P H j k : Nat) : Int) ∧ v = .int .i64 (k : Int) ∧ Hid (wr.ownsRow w1.heap.size 40 2 (.slice (some ⟨ga, 0, none⟩) (j + 1) cap1) (j + 1) (knsC ((knotL P H).take (j + 1)))) ∧ Hid (Below w1.heap.size w1 wr)) (fun _ v _ => j - (intOf v).toNat)
      case atStart => exact ⟨0, Nat.zero_le _, rfl, rfl, HO2, B2⟩
      case round =>
        clear HO2 B2
        obtain ⟨k, hk, rfl, rfl, HO, HB1⟩ := hrel
        obtain ⟨wo, rfl⟩ : ∃ wo : World, wo = wr := ⟨_, rfl⟩
        by_cases hkl : k < j
        · have kj : (k : Int) < (j : Int) := by omega
          have HST := Lib.hid (crossN_step (P := P) (s := H) (p := j) (k := k) (by omega) hkl hlt)
          have hle := crossN_le (P := P) (s := H) (p := j) (k := k) (by omega) hj
          have hget : ∀ i, i ≤ j → ((knotL P H).take (j + 1))[i]? = some (i, (i + H) % P) := fun i hi => by
            rw [List.getElem?_take, if_pos (by omega), knotL_get (by omega)]
          obtain ⟨g1, h1, _, h3, h4⟩ := own_at HO.out (knsC_get (hget k (by omega))).2
          obtain ⟨g2, h5, _, h7, h8⟩ := own_at HO.out (knsC_get (hget j (Nat.le_refl _))).2
          injection h1 with h1; injection h1 with h1; subst h1
          injection h5 with h5; injection h5 with h5; subst h5
          dsimp only at h4 h8
          clear h7 hget
          generalize hA : (k + H) % P = a at *
          generalize hB' : (j + H) % P = b at *
          have HA := Lib.hid hA
          clear hA hB'
          have i3 : k < j + 1 := by omega
          have i4 : (k : Int) < ((j + 1 : Nat) : Int) := by omega
          have i5 : (j : Int) < ((j + 1 : Nat) : Int) := by omega
          have i6 : (k : Int) < (j : Int) + 1 := by omega
          have i8 : (j : Int) < (j : Int) + 1 := by omega
          have i9 : j < j + 1 := by omega
          have i10 : (0 : Int) ≤ (j : Int) := by omega
          by_cases hab : b < a
          · have d1 : decide ((b : Int) < (a : Int)) = true := decide_eq_true (by omega)
            have HAB : Hid (crossN P H j (k + 1) = crossN P H j k + 1) := by show _ = _; rw [HST.out, if_pos hab]
            have i7 : IntKind.i64.wrap (((crossN P H j k : Nat) : Int) + 1) = ((crossN P H j k : Nat) : Int) + 1 := IntWalk.i64_in _ (by omega)
            go_wp2
            go_region_held3 (fun W' => W'.cell? ⟨ga, k * 2 + 1, none⟩ = some (vNat a) ∧ W'.cell? ⟨ga, j * 2 + 1, none⟩ = some (vNat b)) (first | exact ⟨h4, h8⟩ | go_keep) (fail)
            go_wp2
            go_roundw
            case rel => exact ⟨k + 1, by omega, by rw [HAB.out]; rfl, by go_num, own_same HO.out (fun _ _ => rfl), HB1.out.drew⟩
            case measure => first | (simp [intOf]; done) | (simp [intOf]; omega)
          · have d1 : decide ((b : Int) < (a : Int)) = false := decide_eq_false (by omega)
            have HAB : Hid (crossN P H j (k + 1) = crossN P H j k) := by show _ = _; rw [HST.out, if_neg hab]; rfl
            go_wp2
            go_region_held3 (fun W' => W'.cell? ⟨ga, k * 2 + 1, none⟩ = some (vNat a) ∧ W'.cell? ⟨ga, j * 2 + 1, none⟩ = some (vNat b)) (first | exact ⟨h4, h8⟩ | go_keep) (fail)
            go_wp2
            go_roundw
            case rel => exact ⟨k + 1, by omega, by rw [HAB.out], by go_num, own_same HO.out (fun _ _ => rfl), HB1.out.drew⟩
            case measure => first | (simp [intOf]; done) | (simp [intOf]; omega)
        · obtain rfl : k = j := by omega
          have HNX := Lib.hid (crossN_next (P := P) (s := H) (p := k))
          go_wp2
          go_roundw
          case rel => exact ⟨k + 1, some ⟨ga, 0, none⟩, cap1, by omega, by go_num, rfl, by rw [HNX.out], HO, HB1⟩
          case measure => first | (simp [intOf]; done) | (simp [intOf]; omega)
    · obtain rfl : j = P := by omega
      have hc := own_caps HO.out
      have HCA := Lib.hid (crossN_all (P := j) (s := H) (by omega))
      go_wp2
      refine bodyPost_ret (results_tmp3 rfl _ _ _) rfl ?_
      have hO := HO.out
      rw [List.take_of_length_le (by rw [knotL_len]; exact Nat.le_refl _)] at hO
      refine ⟨X, j, d, ?_, own_rdK hO, knotL_len _ _, hc.1, hc.2, bvia HB.out HB1.out⟩
      rw [← HCA.out]; rfl
end Go.Proofs.Ytdimfbmbomgiaaa
/-
  Contracts of torchonref03: crossing, crossings, Crossings.
-/
namespace Go.Proofs.Ytdimfbmbomgiaaa
open Go.RowKit
set_option maxRecDepth 100000 in
theorem cr67 (w : World) : Calls Try.prog 68 #[.int .u8 67] w (RetO [2] w) := by
  go_enter Try.func68, Try.ntmps68
  go_wp2
  go_ret
  exact ⟨some ⟨w.heap.size, 0, none⟩, 1, 1, rfl, World.ownsRow_lit w #[.int .i64 2] 1 (Nat.le_refl _) (by unfold maxLen; omega) rfl, rfl, by go_grown⟩
set_option maxRecDepth 100000 in
theorem cr84 (w : World) : Calls Try.prog 68 #[.int .u8 84] w (RetO [(-1), (-3)] w) := by
  go_enter Try.func68, Try.ntmps68
  go_wp2
  go_ret
  exact ⟨some ⟨w.heap.size, 0, none⟩, 2, 2, rfl, World.ownsRow_lit w #[.int .i64 (-1), .int .i64 (-3)] 2 (Nat.le_refl _) (by unfold maxLen; omega) rfl, rfl, by go_grown⟩
set_option maxRecDepth 100000 in
theorem cr76 (w : World) : Calls Try.prog 68 #[.int .u8 76] w (RetO [(-1)] w) := by
  go_enter Try.func68, Try.ntmps68
  go_wp2
  go_ret
  exact ⟨some ⟨w.heap.size, 0, none⟩, 1, 1, rfl, World.ownsRow_lit w #[.int .i64 (-1)] 1 (Nat.le_refl _) (by unfold maxLen; omega) rfl, rfl, by go_grown⟩
set_option maxRecDepth 100000 in
theorem cr82 (w : World) : Calls Try.prog 68 #[.int .u8 82] w (RetO [(-3)] w) := by
  go_enter Try.func68, Try.ntmps68
  go_wp2
  go_ret
  exact ⟨some ⟨w.heap.size, 0, none⟩, 1, 1, rfl, World.ownsRow_lit w #[.int .i64 (-3)] 1 (Nat.le_refl _) (by unfold maxLen; omega) rfl, rfl, by go_grown⟩
set_option maxRecDepth 100000 in
theorem cr80 (w : World) : Calls Try.prog 68 #[.int .u8 80] w (RetO [] w) := by
  go_enter Try.func68, Try.ntmps68
  go_wp2
  go_ret
  exact ⟨none, 0, 0, rfl, World.ownsRow_nil _ _ _ _, rfl, by go_grown⟩
set_option maxRecDepth 100000 in
theorem cr99 (w : World) : Calls Try.prog 68 #[.int .u8 99] w (RetO [(-2)] w) := by
  go_enter Try.func68, Try.ntmps68
  go_wp2
  go_ret
  exact ⟨some ⟨w.heap.size, 0, none⟩, 1, 1, rfl, World.ownsRow_lit w #[.int .i64 (-2)] 1 (Nat.le_refl _) (by unfold maxLen; omega) rfl, rfl, by go_grown⟩
set_option maxRecDepth 100000 in
theorem cr116 (w : World) : Calls Try.prog 68 #[.int .u8 116] w (RetO [1, 3] w) := by
  go_enter Try.func68, Try.ntmps68
  go_wp2
  go_ret
  exact ⟨some ⟨w.heap.size, 0, none⟩, 2, 2, rfl, World.ownsRow_lit w #[.int .i64 1, .int .i64 3] 2 (Nat.le_refl _) (by unfold maxLen; omega) rfl, rfl, by go_grown⟩
set_option maxRecDepth 100000 in
theorem cr108 (w : World) : Calls Try.prog 68 #[.int .u8 108] w (RetO [1] w) := by
  go_enter Try.func68, Try.ntmps68
  go_wp2
  go_ret
  exact ⟨some ⟨w.heap.size, 0, none⟩, 1, 1, rfl, World.ownsRow_lit w #[.int .i64 1] 1 (Nat.le_refl _) (by unfold maxLen; omega) rfl, rfl, by go_grown⟩
set_option maxRecDepth 100000 in
theorem cr114 (w : World) : Calls Try.prog 68 #[.int .u8 114] w (RetO [3] w) := by
  go_enter Try.func68, Try.ntmps68
  go_wp2
  go_ret
  exact ⟨some ⟨w.heap.size, 0, none⟩, 1, 1, rfl, World.ownsRow_lit w #[.int .i64 3] 1 (Nat.le_refl _) (by unfold maxLen; omega) rfl, rfl, by go_grown⟩
theorem crossing68 (c : UInt8) (h : isLet c = true) (w : World) : Calls Try.prog 68 #[.int .u8 c.toNat] w (RetO (crT (twV c) 3) w) := by
  rcases let_cases h with rfl | rfl | rfl | rfl | rfl | rfl | rfl | rfl | rfl
  · exact cr67 w
  · exact cr84 w
  · exact cr76 w
  · exact cr82 w
  · exact cr80 w
  · exact cr99 w
  · exact cr116 w
  · exact cr108 w
  · exact cr114 w
theorem crW_len3 (bs : List UInt8) : ∀ i, (crW bs i).length ≤ 3 * i
  | 0 => Nat.le_refl _
  | i + 1 => by
    have := crW_len3 bs i
    have h3 : ∀ v : List Int, (crT v 3).length ≤ 3 := fun v => by
      simp only [crT]
      repeat' split
      all_goals simp
    unfold crW
    split
    · have := h3 (twV ‹UInt8›)
      rw [List.length_append]; omega
    · omega
set_option maxRecDepth 100000 in
set_option maxHeartbeats 2000000 in
theorem crossings53 (s : ByteArray) (w : World) (hs : s.size ≤ 16) (hok : wOk s = true) :
    Calls Try.prog 56 #[.string s] w (RetO (crW s.data.toList s.size) w) := by
  have HOK : Hid (∀ (i : Nat) (hi : i < s.size), isLet s[i] = true ∧ s.data.toList[i]? = some s[i]) := fun i hi => by
    have h1 : s.data.toList[i]? = some s[i] := by
      rw [Array.getElem?_toList]
      exact Array.getElem?_eq_getElem hi
    exact ⟨(List.all_eq_true.1 hok) _ (mem_of_get h1), h1⟩
  clear hok
  go_enter Try.func56, Try.ntmps56
  go_wp2
  go_loopw [3, 4] (fun v i wr => ∃ (j l : Nat) (A' : Option Addr) (c' : Nat), j ≤ s.size ∧ l ≤ 3 * j ∧ i = .int .i64 (j : Int) ∧ v = .slice A' l c' ∧ Hid ((crW s.data.toList j).length = l) ∧ Hid (wr.ownsRow w.heap.size 3 1 v l ((crW s.data.toList j).map vInt)) ∧ Below w.heap.size w wr) (fun _ i _ => s.size - (intOf i).toNat)
  case atStart => exact ⟨0, 0, none, 0, Nat.zero_le _, Nat.le_refl _, rfl, rfl, Lib.hid rfl, Lib.hid (World.ownsRow_nil _ _ _ _), Below.refl _ _⟩
  case round =>
    obtain ⟨j, l, A', c', hj, hlj, rfl, rfl, HLL, HO, hb⟩ := hrel
    obtain ⟨wo, rfl⟩ : ∃ wo : World, wo = wr := ⟨_, rfl⟩
    have hz := hb.size
    by_cases hlt : j < s.size
    · obtain ⟨hlet, hget⟩ := HOK.out j hlt
      have T := Lib.hid (crossing68 s[j] hlet wo)
      have HS := Lib.hid (crW_succ hget)
      obtain ⟨V, hV⟩ : ∃ V, V = crT (twV s[j]) 3 := ⟨_, rfl⟩
      rw [← hV] at T HS
      clear hlet hget hV
      go_wp2_with fail
      refine T.out.mono ?_
      rintro e w2 ⟨A2, n2, c2, rfl, o2, l2, hb2⟩
      have HO2 := Lib.hid (own_below HO.out hb2)
      have HR2 := Lib.hid (own_rd1 o2)
      have B2 := hb.trans (hb2.mono hz)
      have hz2 := B2.size
      have hl3 : l + n2 ≤ 48 + 3 := by
        have h1 := crW_len3 s.data.toList (j + 1)
        rw [HS.out, List.length_append, HLL.out, l2] at h1
        omega
      have HL2 := Lib.hid l2
      have hl4 : l + n2 ≤ 3 * (j + 1) := by
        have h1 := crW_len3 s.data.toList (j + 1)
        rw [HS.out, List.length_append, HLL.out, l2] at h1
        omega
      clear hb2 T HO hb o2 l2
      go_wp2_with (first | (at_builtin; refine wpList_appI rfl (.tmp 11) (.tmp 15) rfl w.heap.size _ _ (crW s.data.toList j) rfl HO2.out A2 n2 c2 V rfl HR2.out HL2.out (by omega) (by omega) ?_; intro A3 c3 w3 hown3 hgrow3) | fail)
      have HO3 := Lib.hid hown3
      have B3 := B2.grown hgrow3 (by omega) (fun kk hk => (HO2.out.lt kk hk).1)
      clear hown3 hgrow3
      go_roundw
      case rel => exact ⟨j + 1, l + n2, A3, c3, by omega, hl4, by go_num, rfl, Lib.hid (by rw [HS.out, List.length_append, HLL.out, HL2.out]), Lib.hid (by rw [HS.out]; exact HO3.out), B3⟩
      case measure => first | (simp [intOf]; done) | (simp [intOf]; omega)
    · obtain rfl : s.size = j := by omega
      go_wp2
      go_ret
      exact ⟨A', l, c', rfl, HO.out, HLL.out, hb⟩
/-- a valid word: the own row, no error -/
theorem crossings42 (s : ByteArray) (w : World) (hs : s.size ≤ 16) (hok : wOk s = true) :
    Calls Try.prog 43 #[.string s] w fun e w' => ∃ A n c, e = .returned (.tuple #[.slice A n c, .int .i64 0]) ∧ w'.ownsRow w.heap.size 3 1 (.slice A n c) n ((crW s.data.toList s.size).map vInt) ∧ (crW s.data.toList s.size).length = n ∧ Below w.heap.size w w' := by
  have C1 := Lib.hid (check03 s w (by omega))
  rw [wchk_ok hs hok] at C1
  have C2 := Lib.hid (crossings53 s w hs hok)
  clear hok
  go_enter Try.func43, Try.ntmps43
  go_wp2_with fail
  refine C1.out.mono ?_
  rintro e w' ⟨rfl, rfl⟩
  go_wp2_with fail
  refine C2.out.mono ?_
  rintro e w2 ⟨A2, n2, c2, rfl, r2, l2, hb2⟩
  have HR := Lib.hid r2; clear r2
  go_wp2
  go_ret2
  exact ⟨A2, n2, c2, rfl, HR.out, l2, hb2⟩
set_option maxRecDepth 100000 in
set_option maxHeartbeats 1000000 in
theorem line41 (m : Nat) (w : World) (hm : m ≤ 48) : Calls Try.prog 42 #[.int .i64 (m : Int)] w (RetO (lineL m) w) := by
  go_enter Try.func42, Try.ntmps42
  go_wp2
  go_loopw [3, 4] (fun v i wr => ∃ (j : Nat) (A' : Option Addr) (c' : Nat), j ≤ m ∧ i = .int .i64 (j : Int) ∧ v = .slice A' j c' ∧ Hid (wr.ownsRow w.heap.size 3 1 v j ((lineL j).map vInt)) ∧ Below w.heap.size w wr) (fun _ i _ => m - (intOf i).toNat)
  case atStart => exact ⟨0, none, 0, Nat.zero_le _, rfl, rfl, Lib.hid (World.ownsRow_nil _ _ _ _), Below.refl _ _⟩
  case round =>
    obtain ⟨j, A', c', hj, rfl, rfl, HO, hb⟩ := hrel
    obtain ⟨wo, rfl⟩ : ∃ wo : World, wo = wr := ⟨_, rfl⟩
    have hz := hb.size
    by_cases hlt : j < m
    · have jm : (j : Int) < (m : Int) := by omega
      have HS : Hid (lineL (j + 1) = lineL j ++ [(j : Int)]) := by show lineL (j + 1) = _; simp [lineL, List.range_succ]
      go_wp2_with (first | (at_builtin; refine wpList_app rfl (.tmp 10) (.tmp 12) _ rfl w.heap.size 3 (.int .i64 0) 1 8 Try.underlying52 infoInt rfl (by omega) (by omega) _ _ _ rfl (HO.out.alloc _) wo.heap.size [vInt (j : Int)] rfl rfl (news_new _ _ _) (one_int _ _) (by omega) (by simp; omega) ?_; intro ga cap1 w7 hg1 hown1 hgrow1 hor1) | fail)
      go_roundw
      case rel => exact ⟨j + 1, some ⟨ga, 0, none⟩, cap1, by omega, by go_num, rfl, Lib.hid (by rw [HS.out, List.map_append]; exact hown1), (hb.alloc hz _).grown hgrow1 (by simp; omega) (fun kk hk => (HO.out.lt kk hk).1)⟩
      case measure => first | (simp [intOf]; done) | (simp [intOf]; omega)
    · obtain rfl : m = j := by omega
      have jm : ¬ (m : Int) < (m : Int) := by omega
      go_wp2
      go_ret
      exact ⟨A', m, c', rfl, HO.out, lineL_len _, hb⟩
end Go.Proofs.Ytdimfbmbomgiaaa
/-
  Memory words for torchonref17.Make.
-/
namespace Go.Proofs.Ytdimfbmbomgiaaa
open Go.RowKit
structure MkR (V W : World) (gc gl cl m : Nat) (t : Int) (s : Mk) (X : Option Addr) (nx cx : Nat) (P : Option Addr) (np cp : Nat) : Prop where
  c : Has W gc 49 [.int .i64 t, .slice X nx cx, .slice P np cp]
  l : W.ownsRow (gc + 1) 3 1 (.slice (some ⟨gl, 0, none⟩) m cl) m ((s.l.take m).map vInt)
  ox : W.ownsRow (gl + 1) 83 4 (.slice X nx cx) nx (qsC s.xs)
  op : W.ownsRow (gl + 1) 80 4 (.slice P np cp) np (qsC s.ps)
  b : Below gc V W
  v : gc ≤ V.heap.size
  sz : gl + 1 ≤ W.heap.size
  nxs : s.xs.length = nx
  nps : s.ps.length = np
section
variable {V W W' : World} {gc gl cl m : Nat} {t : Int} {s : Mk} {X P : Option Addr} {nx cx np cp : Nat} {gw : Nat} {x : Wk}
theorem MkR.lt (h : MkR V W gc gl cl m t s X nx cx P np cp) : gc < gl := by
  have := (h.l.lt gl rfl).1; omega
theorem MkR.below (h : MkR V W gc gl cl m t s X nx cx P np cp) (k : Below W.heap.size W W') : MkR V W' gc gl cl m t s X nx cx P np cp :=
  ⟨h.c.below k h.c.lt, own_below h.l k, own_below h.ox k, own_below h.op k, h.b.trans (k.mono (Nat.le_of_lt h.c.lt)), h.v, Nat.le_trans h.sz k.size, h.nxs, h.nps⟩
theorem kept_of {base base' : Nat} {e e' : TypeId} {size size' n n' : Nat} {v v' : Value} {xs xs' : List Value} (h : W.ownsRow base e size v n xs) (h' : W.ownsRow base' e' size' v' n' xs') (hne : e ≠ e') (k : W.grownBy W' v'.ownBlock) : W'.ownsRow base e size v n xs :=
  h.kept k (by cases hv : v.ownBlock with | none => exact .inl rfl | some g => exact .inr (fun e => own_apart h h' hne hv e.symm))
/-- a pin is put behind its row, and the slice into the cloth -/
theorem MkR.pinned (h : MkR V W gc gl cl m t s X nx cx P np cp) {P' : Option Addr} {cp' : Nat} (y : Q4) (ho : W'.ownsRow (gl + 1) 80 4 (.slice P' (np + 1) cp') (np + 1) (qsC s.ps ++ q4C y)) (k : W.grownBy W' (Value.slice P np cp).ownBlock) :
    MkR V (W'.setCell ⟨gc, 2, none⟩ (.slice P' (np + 1) cp')) gc gl cl m t { s with ps := s.ps ++ [y] } X nx cx P' (np + 1) cp' := by
  have hc : Has W' gc _ _ := h.c.same (k.block gc h.c.lt (fun e => (h.c.ne_own h.op (by decide)) e.symm))
  have hl := kept_of h.l h.op (by decide) k
  have hx := kept_of h.ox h.op (by decide) k
  have hB := But.set gc W' 2 (.slice P' (np + 1) cp')
  refine ⟨hc.set 2 _, hB.own hl (hc.ne_own hl (by decide)), hB.own hx (hc.ne_own hx (by decide)), ?_, ?_, h.v, Nat.le_trans h.sz (Nat.le_trans k.size hB.size), h.nxs, by simp [h.nps]⟩
  · rw [qsC_app]; exact hB.own ho (hc.ne_own ho (by decide))
  · refine (h.b.grown k (Nat.le_of_lt h.c.lt) (fun r hr => ?_)).setCell (Nat.le_refl _) _
    have := (h.op.lt r hr).1; have := h.lt; omega
theorem MkR.crossed (h : MkR V W gc gl cl m t s X nx cx P np cp) {X' : Option Addr} {cx' : Nat} (y : Q4) (ho : W'.ownsRow (gl + 1) 83 4 (.slice X' (nx + 1) cx') (nx + 1) (qsC s.xs ++ q4C y)) (k : W.grownBy W' (Value.slice X nx cx).ownBlock) :
    MkR V (W'.setCell ⟨gc, 1, none⟩ (.slice X' (nx + 1) cx')) gc gl cl m t { s with xs := s.xs ++ [y] } X' (nx + 1) cx' P np cp := by
  have hc : Has W' gc _ _ := h.c.same (k.block gc h.c.lt (fun e => (h.c.ne_own h.ox (by decide)) e.symm))
  have hl := kept_of h.l h.ox (by decide) k
  have hp := kept_of h.op h.ox (by decide) k
  have hB := But.set gc W' 1 (.slice X' (nx + 1) cx')
  refine ⟨hc.set 1 _, hB.own hl (hc.ne_own hl (by decide)), ?_, hB.own hp (hc.ne_own hp (by decide)), ?_, h.v, Nat.le_trans h.sz (Nat.le_trans k.size hB.size), by simp [h.nxs], h.nps⟩
  · rw [qsC_app]; exact hB.own ho (hc.ne_own ho (by decide))
  · refine (h.b.grown k (Nat.le_of_lt h.c.lt) (fun r hr => ?_)).setCell (Nat.le_refl _) _
    have := (h.ox.lt r hr).1; have := h.lt; omega
/-- two places of the line are exchanged -/
theorem MkR.swapped (h : MkR V W gc gl cl m t s X nx cx P np cp) (i j : Nat) (a b : Int) :
    MkR V ((W.setCell ⟨gl, i, none⟩ (vInt a)).setCell ⟨gl, j, none⟩ (vInt b)) gc gl cl m t { s with l := (s.l.set i a).set j b } X nx cx P np cp := by
  have hB := (But.set gl W i (vInt a)).trans (But.set gl (W.setCell ⟨gl, i, none⟩ (vInt a)) j (vInt b))
  have hl := ((h.l.stored i (vInt a)).1.stored j (vInt b)).1
  have hlt := h.lt
  refine ⟨hB.has h.c (by omega), ?_, hB.own h.ox ?_, hB.own h.op ?_, h.b.trans (hB.below (by omega) (Nat.le_of_lt h.c.lt)), h.v, Nat.le_trans h.sz hB.size, h.nxs, h.nps⟩
  · rw [show ((s.l.set i a).set j b).take m = ((s.l.take m).set i a).set j b by rw [List.take_set, List.take_set], List.map_set, List.map_set]
    exact hl
  · intro e; have := (h.ox.lt gl e).1; omega
  · intro e; have := (h.op.lt gl e).1; omega
theorem work_pinned (j : Has W gw 63 (wkCells x)) (h : MkR V W gc gl cl m t s X nx cx P np cp) (k : W.grownBy W' (Value.slice P np cp).ownBlock) (hg : gl + 1 ≤ gw) (u : Value) : Has (W'.setCell ⟨gc, 2, none⟩ u) gw 63 (wkCells x) := by
  have := h.lt
  exact (j.same (k.block gw j.lt (fun e => (j.ne_own h.op (by decide)) e.symm))).far (by omega) 2 _
theorem work_crossed (j : Has W gw 63 (wkCells x)) (h : MkR V W gc gl cl m t s X nx cx P np cp) (k : W.grownBy W' (Value.slice X nx cx).ownBlock) (hg : gl + 1 ≤ gw) (u : Value) : Has (W'.setCell ⟨gc, 1, none⟩ u) gw 63 (wkCells x) := by
  have := h.lt
  exact (j.same (k.block gw j.lt (fun e => (j.ne_own h.ox (by decide)) e.symm))).far (by omega) 1 _
theorem work_swapped (j : Has W gw 63 (wkCells x)) (hg : gl + 1 ≤ gw) (i k : Nat) (a b : Value) : Has ((W.setCell ⟨gl, i, none⟩ a).setCell ⟨gl, k, none⟩ b) gw 63 (wkCells x) :=
  (j.far (by omega) i a).far (by omega) k b
theorem rowR_crossed {n : Nat} {v : Value} {ys : List Value} (r : W.ownsRow (gl + 1) 3 1 v n ys) (h : MkR V W gc gl cl m t s X nx cx P np cp) (k : W.grownBy W' (Value.slice X nx cx).ownBlock) (u : Value) : (W'.setCell ⟨gc, 1, none⟩ u).ownsRow (gl + 1) 3 1 v n ys := by
  have h1 := kept_of r h.ox (by decide) k
  have hc : Has W' gc _ _ := h.c.same (k.block gc h.c.lt (fun e => (h.c.ne_own h.ox (by decide)) e.symm))
  exact (But.set gc W' 1 u).own h1 (hc.ne_own h1 (by decide))
theorem rowR_swapped {n : Nat} {v : Value} {ys : List Value} (r : W.ownsRow (gl + 1) 3 1 v n ys) (i k : Nat) (a b : Value) : ((W.setCell ⟨gl, i, none⟩ a).setCell ⟨gl, k, none⟩ b).ownsRow (gl + 1) 3 1 v n ys :=
  ((But.set gl W i a).trans (But.set gl _ k b)).own r (fun e => by have := (r.lt gl e).1; omega)
end
/-- the word that the reference goes through -/
def refW (x : Wk) : ByteArray := if x.kind = 2 then ⟨#[80]⟩ else x.word
theorem refW_work {s : Mk} {i : Nat} {x : Wk} (h : x.kind = 2 → x.word.size = 0) : s.work i x = s.letters (i : Int) (mkMid x) (refW x).data.toList (refW x).size := by
  unfold Mk.work refW
  by_cases hk : x.kind = 2
  · rw [if_pos hk, if_pos hk, str_len, h hk]; rfl
  · rw [if_neg hk, if_neg hk, str_len]
theorem refW_ok {x : Wk} (h : wOk x.word = true) (hs : x.word.size ≤ 16) : wOk (refW x) = true ∧ (refW x).size ≤ 16 := by
  unfold refW
  split
  · exact ⟨by decide, by decide⟩
  · exact ⟨h, hs⟩
theorem lineL_at0 {m : Nat} (h : 0 < m) : (lineL m)[0]? = some 0 := by
  simp [lineL, h]
theorem crW_P : crW [80] 1 = [] := by decide
/-- what the reference does at a letter ahead of its crossings -/
def Mk.pinIf (s : Mk) (i : Int) (mid : Nat) (c : UInt8) : Mk := if c = 80 then s.pin i mid else s
theorem Mk.letter_pinIf (s : Mk) (i : Int) (mid : Nat) (c : UInt8) : s.letter i mid c = (s.pinIf i mid c).crosses i mid (crW [c] 1) (crW [c] 1).length := by
  unfold Mk.letter Mk.pinIf
  by_cases h : c = 80
  · rw [if_pos h, if_pos h, h, crW_P]; rfl
  · rw [if_neg h, if_neg h]
theorem Mk.pinIf_l (s : Mk) (i : Int) (mid : Nat) (c : UInt8) : (s.pinIf i mid c).l = s.l := by
  unfold Mk.pinIf; split <;> rfl
theorem Mk.pinIf_xs (s : Mk) (i : Int) (mid : Nat) (c : UInt8) : (s.pinIf i mid c).xs = s.xs := by
  unfold Mk.pinIf; split <;> rfl
end Go.Proofs.Ytdimfbmbomgiaaa
