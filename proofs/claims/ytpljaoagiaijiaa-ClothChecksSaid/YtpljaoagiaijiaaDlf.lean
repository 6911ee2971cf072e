/-
  Contract: slices.DeleteFunc over slices of ints, with the program's own test for an empty one.
-/
import Derived.Test.YtpljaoagiaijiaaDel
import Derived.Lib.SliceRun
namespace Go.Proofs.Ytpljaoagiaijiaa
open Go.RowKit
theorem setCells_has {g : Nat} {t : TypeId} : ∀ (vs : List Value) (o : Nat) (w : World) (cs : List Value), Has w g t cs → ∃ cs', Has (w.setCells g o vs) g t cs' ∧ cs'.take o = cs.take o ∧ But g w (w.setCells g o vs)
  | [], o, w, cs, h => ⟨cs, h, rfl, But.refl _ _⟩
  | v :: vs, o, w, cs, h => by
    obtain ⟨cs', h1, h2, h3⟩ := setCells_has vs (o + 1) (w.setCell ⟨g, o, none⟩ v) (cs.set o v) (h.set o v)
    refine ⟨cs', h1, ?_, (But.set g w o v).trans h3⟩
    have e := congrArg (List.take o) h2
    rw [List.take_take, List.take_take, Nat.min_eq_left (Nat.le_succ o)] at e
    rw [e, List.take_set_of_le (Nat.le_refl o)]
theorem filt_succ {Vs : List Value} {j : Nat} {v : Value} (h : Vs[j]? = some v) : (Vs.take (j + 1)).filter neV = (Vs.take j).filter neV ++ if neV v = true then [v] else [] := by
  rw [List.take_add_one, h, List.filter_append]
  congr 1
  cases hn : neV v <;> simp [hn]
set_option maxRecDepth 100000 in
set_option maxHeartbeats 4000000 in
theorem delSays : DelSays := by
  intro g T Vs W hG hl hT hv
  have J := Lib.hid (index69 g T Vs W hG hl hT hv)
  have HG := Lib.hid hG
  have HV := Lib.hid hv
  have HL := Lib.hid hl
  have hgW := hG.lt
  clear hG hv hl
  go_enter Try.func55, Try.ntmps55
  go_wp2_with fail
  refine J.out.mono ?_
  rintro e w1 ⟨⟨rfl, hall⟩ | ⟨i0, hi0, rfl, hbef, v0, hv0, hne0⟩, rfl⟩
  · have hF : Hid (Vs.filter neV = Vs) := List.filter_eq_self.2 hall
    clear hall J
    go_wp2
    go_ret
    exact ⟨[], by rw [hF.out, HL.out]; rfl, by rw [hF.out, List.append_nil]; exact HG.out, But.refl _ _⟩
  · have hst : Hid ((Vs.take (i0 + 1)).filter neV = Vs.take i0) := by
      show _ = _
      rw [filt_succ hv0, hne0]
      have : (Vs.take i0).filter neV = Vs.take i0 := List.filter_eq_self.2 (fun v hv => by
        obtain ⟨q, hq, rfl⟩ := List.mem_iff_getElem.1 hv
        have hq' : q < i0 := by rw [List.length_take] at hq; omega
        exact hbef q _ hq' (by rw [List.getElem_take]; exact List.getElem?_eq_getElem _))
      rw [this]; simp
    have hm : ((i0 : Int) == -1) = false := by rw [beq_eq_false_iff_ne]; omega
    clear hbef hv0 hne0 J
    go_wp2
    go_loopw [5, 6] (fun x y wr => ∃ (j i : Nat) (cs : List Value), j ≤ T ∧ i < j ∧ x = .int .i64 (i : Int) ∧ y = .int .i64 (j : Int) ∧ Hid (Has wr g 35 cs) ∧ Hid (cs.length = T ∧ cs.take i = (Vs.take j).filter neV ∧ ∀ q, j ≤ q → cs[q]? = Vs[q]?) ∧ Hid (But g W wr)) (fun _ y _ => T - (intOf y).toNat)
    case atStart => exact ⟨i0 + 1, i0, Vs, by omega, by omega, rfl, by go_num, HG, Lib.hid ⟨HL.out, hst.out.symm, fun _ _ => rfl⟩, Lib.hid (But.refl _ _)⟩
    case round =>
      clear hst
      obtain ⟨j, i, cs, hj, hij, rfl, rfl, HC, HI, HB⟩ := hrel
      obtain ⟨wo, rfl⟩ : ∃ wo : World, wo = wr := ⟨_, rfl⟩
      have qg := HC.out.lt
      by_cases hlt : j < T
      · obtain ⟨v, hv⟩ := get_of_lt (l := Vs) (k := j) (by rw [HL.out]; exact hlt)
        obtain ⟨A, n, c, rfl, hnc, hc⟩ := HV.out v (mem_of_get hv)
        have c0 : wo.cell? ⟨g, j, none⟩ = some (.slice A n c) := (HC.out.cell j).trans ((HI.out.2.2 j (Nat.le_refl _)).trans hv)
        have HFS := Lib.hid (filt_succ hv)
        have HVV := Lib.hid hv
        have jT : (j : Int) < (T : Int) := by omega
        have iT : (i : Int) < (T : Int) := by omega
        have iT' : i < T := by omega
        obtain ⟨u, hu⟩ := get_of_lt (l := cs) (k := i) (by rw [HI.out.1]; exact iT')
        have g0 : wo.cell? ⟨g, i, none⟩ = some u := (HC.out.cell i).trans hu
        have f0 := HC.out.free i
        have E := Lib.hid (empty56 A n c wo (Nat.le_trans hnc hc))
        clear hu
        cases hne : neV (.slice A n c) with
        | true =>
          rw [hne] at E
          have HNE := Lib.hid hne
          clear hv hne
          go_wp2_with fail
          refine E.out.mono ?_
          rintro e2 w2 ⟨rfl, rfl⟩
          go_wp2
          go_roundw
          case rel =>
            refine ⟨j + 1, i + 1, cs.set i (.slice A n c), by omega, by omega, by go_num, by go_num, Lib.hid (HC.out.set i _), Lib.hid ⟨by rw [List.length_set]; exact HI.out.1, ?_, fun q hq => ?_⟩, Lib.hid (HB.out.trans (But.set g _ i _))⟩
            · rw [HFS.out, HNE.out, if_pos rfl, ← HI.out.2.1, List.take_add_one, List.take_set_of_le (Nat.le_refl i), List.getElem?_set_self (by rw [HI.out.1]; exact iT')]
              rfl
            · rw [List.getElem?_set_ne (by omega)]
              exact HI.out.2.2 q (by omega)
          case measure => first | (simp [intOf]; done) | (simp [intOf]; omega)
        | false =>
          rw [hne] at E
          have HNE := Lib.hid hne
          clear hv hne
          go_wp2_with fail
          refine E.out.mono ?_
          rintro e2 w2 ⟨rfl, rfl⟩
          go_wp2
          go_roundw
          case rel =>
            refine ⟨j + 1, i, cs, by omega, by omega, rfl, by go_num, HC, Lib.hid ⟨HI.out.1, ?_, fun q hq => HI.out.2.2 q (by omega)⟩, HB⟩
            rw [HFS.out, HNE.out, if_neg (by decide), List.append_nil]
            exact HI.out.2.1
          case measure => first | (simp [intOf]; done) | (simp [intOf]; omega)
      · obtain rfl : T = j := by omega
        have hlen : Hid ((Vs.filter neV).length = i ∧ cs.take i = Vs.filter neV) := by
          obtain ⟨h1, h2, _⟩ := HI.out
          have hT' : Vs.take T = Vs := List.take_of_length_le (by rw [HL.out]; exact Nat.le_refl _)
          rw [hT'] at h2
          refine ⟨?_, h2⟩
          rw [← h2, List.length_take, h1]; omega
        obtain ⟨cs', s1, s2, s3⟩ := setCells_has (List.replicate (T - i) (.slice none 0 0)) i wo cs HC.out
        have hcl : ∀ ty c', (Builtin.clear_ #[66] ty #[.slice (some ⟨g, i, none⟩) (T - i) c']).run Try.prog wo = .ok (.tuple #[]) (wo.setCells g i (List.replicate (T - i) (.slice none 0 0))) := fun ty c' =>
          Lib.run_clear_slice wo 66 35 ty (.slice none 0 0) Try.underlying66 (fun w => by kernel_rfl) rfl rfl g i (T - i) c' (by omega) (fun q hq => by
            obtain ⟨u, hu⟩ := get_of_lt (l := cs) (k := i + q) (by rw [HI.out.1]; omega)
            rw [HC.out.cell, hu]; rfl) (fun q _ => HC.out.free _)
        have HS1 := Lib.hid s1
        have HS2 := Lib.hid s2
        have HS3 := Lib.hid s3
        have iT : (i : Int) ≤ (T : Int) := by omega
        have iT2 : i ≤ T := by omega
        have i00 : (0 : Int) ≤ (i : Int) := by omega
        clear s1 s2 s3
        go_wp2
        go_ret
        refine ⟨cs'.drop i, by rw [hlen.out.1]; first | rfl | simp, ?_, HB.out.trans HS3.out⟩
        rw [← hlen.out.2, ← HS2.out, List.take_append_drop]
        exact HS1.out
end Go.Proofs.Ytpljaoagiaijiaa
