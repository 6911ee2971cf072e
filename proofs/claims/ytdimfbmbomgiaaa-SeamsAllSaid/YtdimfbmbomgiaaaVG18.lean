/-
  Contract of torchonref24.Period.
-/
import Derived.Test.YtdimfbmbomgiaaaVG1
import Derived.Test.YtdimfbmbomgiaaaVG13
import Derived.Test.YtdimfbmbomgiaaaVG17
import Derived.BigGuardPart
import Derived.Laws.StructEq
import Derived.Lib.SmallJoins
import Derived.Deep.Slices
import Derived.Deep.Strs
import Derived.OpenShut
import Derived.Carry
namespace Go.Proofs.Ytdimfbmbomgiaaa
open Go.RowKit
/-- where each thread is after n steps, the first i of them one step further -/
def atM (nx : Nat → Nat) (T n i : Nat) : List Int := (List.range T).map (fun t => if t < i then ((Cyc.it nx (n + 1) t : Nat) : Int) else ((Cyc.it nx n t : Nat) : Int))
theorem atM_len (nx : Nat → Nat) (T n i : Nat) : (atM nx T n i).length = T := by simp [atM]
theorem atM_get (nx : Nat → Nat) {T n i t : Nat} (h : t < T) : (atM nx T n i)[t]? = some (if t < i then ((Cyc.it nx (n + 1) t : Nat) : Int) else ((Cyc.it nx n t : Nat) : Int)) := by
  unfold atM; rw [List.getElem?_map, List.getElem?_range h]; rfl
theorem atM_set (nx : Nat → Nat) {T n i : Nat} : (atM nx T n i).set i ((Cyc.it nx (n + 1) i : Nat) : Int) = atM nx T n (i + 1) := by
  apply List.ext_getElem?
  intro t
  rw [List.getElem?_set, atM_len]
  by_cases ht : t < T
  · rw [atM_get nx ht, atM_get nx ht]
    by_cases e : i = t
    · subst e; rw [if_pos rfl, if_pos ht, if_pos (by omega)]
    · rw [if_neg e]
      congr 1
      by_cases h : t < i
      · rw [if_pos h, if_pos (by omega)]
      · rw [if_neg h, if_neg (by omega)]
  · have h1 : (atM nx T n (i + 1))[t]? = none := List.getElem?_eq_none (by rw [atM_len]; omega)
    have h2 : (atM nx T n i)[t]? = none := List.getElem?_eq_none (by rw [atM_len]; omega)
    rw [h1, h2]
    split
    · split
      · omega
      · rfl
    · rfl
theorem atM_next (nx : Nat → Nat) (T n : Nat) : atM nx T n T = atM nx T (n + 1) 0 := by
  unfold atM
  apply List.map_congr_left
  intro t ht
  rw [if_pos (List.mem_range.1 ht), if_neg (by omega)]
theorem atM_one (ws : List Wk) (T h : Nat) : atM (nxS ws T h) T 1 0 = nxL ws T h T := by
  unfold atM nxL
  apply List.map_congr_left
  intro t ht
  rw [if_neg (by omega), if_pos (List.mem_range.1 ht)]; rfl
/-- are the first i threads back after n steps? -/
def backTo (nx : Nat → Nat) (n i : Nat) : Bool := (List.range i).all (fun t => Cyc.it nx n t == t)
theorem backTo_succ (nx : Nat → Nat) (n i : Nat) : backTo nx n (i + 1) = (backTo nx n i && (Cyc.it nx n i == i)) := by
  unfold backTo; rw [List.range_succ, List.all_append]; simp
theorem backTo_all {nx : Nat → Nat} {T n : Nat} (P : Cyc.Perm nx T) : backTo nx n T = true ↔ Cyc.per nx T ∣ n := by
  rw [← Cyc.per_back P]
  unfold backTo
  rw [List.all_eq_true]
  constructor
  · intro h t ht
    simpa using h t (List.mem_range.2 ht)
  · intro h t ht
    simpa using h t (List.mem_range.1 ht)
set_option maxRecDepth 100000 in
set_option maxHeartbeats 4000000 in
theorem period20 (p : Int) (A : Option Addr) (n c : Nat) (h : Int) (ws : List Wk) (w : World) (hn : n ≤ 9223372036854775807) (hw : RdW w w.heap.size A ws) (hl : ws.length = n)
    (hs : ∀ x ∈ ws, x.word.size ≤ 9223372036854775807) :
    Calls Try.prog 20 #[.agg #[.int .i64 p, .slice A n c], .int .i64 h] w (RetNE .i64 (perR p ws h) (seE p ws h) w) := by
  have CA := Lib.hid (fun (W : World) (hb : Below w.heap.size w W) => asked32 p A n c h ws W hn (hw.up hb) hl hs)
  have K0 : Has (w.alloc (.cells #[.int .i64 p, .slice A n c] 24)) w.heap.size 24 [.int .i64 p, .slice A n c] := Has.new rfl
  by_cases hE : seE p ws h = 0
  case neg =>
    have e : perR p ws h = 0 := by unfold perR; rw [if_neg hE]
    rw [e]
    have hd : (seE p ws h != 0) = true := by simpa using hE
    generalize seE p ws h = q at *
    clear hE e hw hl hs
    go_enter Try.func20, Try.ntmps20
    go_wp2_with fail
    refine (CA.out _ (by go_grown)).mono ?_
    rintro e w1 ⟨rfl, hb1⟩
    have B1 : Below w.heap.size w w1 := bvia (show Below w.heap.size w _ by go_grown) hb1
    go_wp2
    go_ret2
    exact ⟨rfl, B1⟩
  have hR : perR p ws h = ((Cyc.per (nxS ws (2 * p).toNat h.toNat) (2 * p).toNat : Nat) : Int) := by unfold perR; rw [if_pos hE]
  obtain ⟨g1, g2, g3⟩ := seE_zero hE
  obtain ⟨H, rfl⟩ := Int.eq_ofNat_of_zero_le g2
  rw [show ((H : Nat) : Int).toNat = H by simp] at hR
  rw [hR]
  rw [hE] at CA ⊢
  have HOK := Lib.hid (schk_zero g1)
  have CJ := Lib.hid (fun (W : World) (hb : Below w.heap.size w W) => joints38 p A n c H ws W hn (hw.up hb) hl g1 g3)
  have HPM := Lib.hid (nxS_perm HOK.out H)
  have hT : (2 * p).toNat ≤ 48 ∧ 4 ≤ (2 * p).toNat := by have := HOK.out.le; have := HOK.out.ge; omega
  have HA1 := Lib.hid (atM_one ws (2 * p).toNat H)
  have HNL : Hid (∀ t, t < (2 * p).toNat → (nxL ws (2 * p).toNat H (2 * p).toNat)[t]? = some (nxS ws (2 * p).toNat H t : Int)) := fun t ht => nxL_get ws ht ht
  have HLL := Lib.hid (nxL_len ws (2 * p).toNat H (2 * p).toNat)
  generalize (2 * p).toNat = T at *
  generalize nxL ws T H T = ns at *
  generalize nxS ws T H = nx at *
  have hper := Cyc.per_bounds HPM.out hT.1
  generalize hL : Cyc.per nx T = L at *
  have HL := Lib.hid hL
  clear hE hR g1 g2 g3 hw hl hs hL
  go_enter Try.func20, Try.ntmps20
  go_wp2_with fail
  refine (CA.out _ (by go_grown)).mono ?_
  rintro e w1 ⟨rfl, hb1⟩
  have HB := Lib.hid (bvia (show Below w.heap.size w _ by go_grown) hb1)
  have HK := Lib.hid (K0.below hb1 K0.lt)
  have n0 : w1.cell? ⟨w.heap.size, 0, none⟩ = some (.int .i64 p) := HK.out.cell 0
  have n1 : w1.cell? ⟨w.heap.size, 1, none⟩ = some (.slice A n c) := HK.out.cell 1
  have q0 := HK.out.lt
  clear K0 hb1
  go_wp2_with fail
  refine (CJ.out _ HB.out).mono ?_
  rintro e w3 ⟨A3, n3, c3, rfl, hr3, hl3, hn3, hc3, hb3⟩
  rw [HLL.out] at hl3
  subst hl3
  have HB3 := Lib.hid (bvia HB.out hb3)
  have HR3 := Lib.hid hr3
  clear n0 n1 q0 HK HB hb3 hr3 hn3
  go_wp2_with (at_builtin; (refine wpList_appI rfl (.tmp 22) (.tmp 23) rfl w3.heap.size (.slice (some ⟨w3.heap.size, 0, none⟩) 0 0) 0 [] rfl (own_lit0 (Nat.le_refl _)) A3 T c3 _ (by simp [Act.eval]) (HR3.out.up (by go_grown)) HLL.out (by omega) (by simp) ?_; intro A7 c7 w7 hown7 hgrow7))
  have hB7 : Below w3.heap.size w3 w7 := ((Below.refl _ w3).alloc (Nat.le_refl _) (.cells #[] 3)).grown hgrow7 (by simp) (fun kk hk => by simp [Value.ownBlock] at hk; omega)
  obtain ⟨ga, rest, rfl, hga, HW7', _⟩ := own_has hown7 (by omega)
  have HA7 : Hid (Has w7 ga 3 ((atM nx T 1 0).map vInt ++ rest)) := by
    show Has _ _ _ _
    rw [HA1.out]; exact HW7'
  have HB7 := Lib.hid (bvia HB3.out hB7)
  have HR7 := Lib.hid (HR3.out.up hB7)
  have HAD : Hid (∀ b o, A3 = some ⟨b, o, none⟩ → b ≠ ga) := fun b o e => by
    obtain ⟨b', o', h1, h2, _⟩ := HR3.out 0 _ (HNL.out 0 (by omega))
    rw [e] at h1
    injection h1 with h1; injection h1 with h1
    omega
  have hgw : w.heap.size ≤ ga := Nat.le_trans HB3.out.size hga
  clear hown7 hgrow7 hB7 HW7' HB3 HR3 hga
  go_loopw [9] (fun v wr => ∃ n : Nat, 1 ≤ n ∧ n ≤ L ∧ v = .int .i64 (n : Int) ∧ Hid (Has wr ga 3 ((atM nx T n 0).map vInt ++ rest)) ∧ Hid (RdI wr wr.heap.size A3 ns) ∧ Hid (Below w.heap.size w wr)) (fun v _ => L - (intOf v).toNat)
  case atStart => exact ⟨1, Nat.le_refl _, by omega, rfl, HA7, HR7, HB7⟩
  case round =>
    clear HA7 HR7 HB7
    obtain ⟨n', hn1, hnL, rfl, HA, HR, HB⟩ := hrel
    obtain ⟨wo, rfl⟩ : ∃ wo : World, wo = wr := ⟨_, rfl⟩
    have HBA := Lib.hid (backTo_all (n := n') HPM.out)
    go_wp2
    go_loopw [10, 11] (fun u v wr => ∃ i : Nat, i ≤ T ∧ u = .bool (backTo nx n' i) ∧ v = .int .i64 (i : Int) ∧ wr = wo) (fun _ v _ => T - (intOf v).toNat)
    case atStart => exact ⟨0, Nat.zero_le _, rfl, rfl, rfl⟩
    case round =>
      obtain ⟨i, hi, rfl, rfl, hw⟩ := hrel
      subst hw
      by_cases hlt : i < T
      · have jk : (i : Int) < (T : Int) := by omega
        have c0 : wr.cell? ⟨ga, i, none⟩ = some (vInt ((Cyc.it nx n' i : Nat) : Int)) := by
          rw [HA.out.cell, List.getElem?_append_left (by rw [List.length_map, atM_len]; exact hlt), List.getElem?_map, atM_get nx hlt, if_neg (by omega)]; rfl
        have HS := Lib.hid (backTo_succ nx n' i)
        generalize Cyc.it nx n' i = a at *
        cases hb : backTo nx n' i with
        | false =>
          have HS2 : Hid (backTo nx n' (i + 1) = false) := by show _ = _; rw [HS.out, hb]; rfl
          clear hb
          go_wp2
          go_roundw
          case rel => exact ⟨i + 1, by omega, by rw [HS2.out], by go_num, trivial⟩
          case measure => first | (simp [intOf]; done) | (simp [intOf]; omega)
        | true =>
          by_cases ha : a = i
          · have d1 : ((a : Int) == (i : Int)) = true := by simp; omega
            have HS2 : Hid (backTo nx n' (i + 1) = true) := by show _ = _; rw [HS.out, hb, ha]; simp
            clear hb ha
            go_wp2
            go_roundw
            case rel => exact ⟨i + 1, by omega, by rw [HS2.out], by go_num, trivial⟩
            case measure => first | (simp [intOf]; done) | (simp [intOf]; omega)
          · have d1 : ((a : Int) == (i : Int)) = false := by simp; omega
            have HS2 : Hid (backTo nx n' (i + 1) = false) := by show _ = _; rw [HS.out, hb]; simp [ha]
            clear hb ha
            go_wp2
            go_roundw
            case rel => exact ⟨i + 1, by omega, by rw [HS2.out], by go_num, trivial⟩
            case measure => first | (simp [intOf]; done) | (simp [intOf]; omega)
      · obtain rfl : i = T := by omega
        cases hb : backTo nx n' i with
        | true =>
          have hd := HBA.out.1 hb
          have hnl : n' = L := by
            have h1 := HL.out
            rw [h1] at hd
            have := Nat.le_of_dvd (by omega) hd
            omega
          subst hnl
          clear hb hd
          go_wp2
          go_ret2
          exact ⟨rfl, HB.out⟩
        | false =>
          have hlt : n' < L := by
            rcases Nat.lt_or_ge n' L with h1 | h1
            · exact h1
            · have h2 : n' = L := by omega
              have h3 : backTo nx n' i = true := HBA.out.2 (by rw [h2, HL.out]; exact Nat.dvd_refl _)
              rw [h3] at hb; cases hb
          clear hb
          go_wp2
          obtain ⟨wq, rfl⟩ : ∃ wq : World, wq = wr := ⟨_, rfl⟩
          go_loopw [12] (fun v wr' => ∃ k : Nat, k ≤ i ∧ v = .int .i64 (k : Int) ∧ Hid (Has wr' ga 3 ((atM nx i n' k).map vInt ++ rest)) ∧ Hid (RdI wr' wr'.heap.size A3 ns) ∧ Hid (Below w.heap.size w wr')) (fun v _ => i - (intOf v).toNat)
          case atStart => exact ⟨0, Nat.zero_le _, rfl, HA, HR, HB⟩
          case round =>
            clear HA HR HB
            obtain ⟨k, hk, rfl, HA, HR, HB⟩ := hrel
            obtain ⟨wo, rfl⟩ : ∃ wo : World, wo = wr := ⟨_, rfl⟩
            by_cases hki : k < i
            · have jk : (k : Int) < (i : Int) := by omega
              have c0 : wo.cell? ⟨ga, k, none⟩ = some (vInt ((Cyc.it nx n' k : Nat) : Int)) := by
                rw [HA.out.cell, List.getElem?_append_left (by rw [List.length_map, atM_len]; exact hki), List.getElem?_map, atM_get nx hki, if_neg (by omega)]; rfl
              have hit := HPM.out.it_lt n' k hki
              obtain ⟨ba, o, hA, hba, c1⟩ := HR.out _ _ (HNL.out _ hit)
              have hne := HAD.out ba o hA
              subst hA
              have HN : Hid (nx (Cyc.it nx n' k) = Cyc.it nx (n' + 1) k) := (Cyc.it_succ' nx n' k).symm
              generalize Cyc.it nx n' k = a at *
              have ai : (a : Int) < (i : Int) := by omega
              have f0 := HA.out.free k
              have qa := HA.out.lt
              go_wp2
              go_roundw
              case rel =>
                have h1 := HA.out.set k (vInt (nx a : Int))
                rw [HN.out, List.set_append_left _ _ (by rw [List.length_map, atM_len]; exact hki), ← List.map_set, atM_set] at h1
                rw [HN.out]
                refine ⟨k + 1, by omega, by go_num, h1, ?_, HB.out.setCell hgw _⟩
                intro t x hx
                obtain ⟨b, o', h2, h3, h4⟩ := HR.out t x hx
                injection h2 with h2; injection h2 with h2 h5
                subst h2; subst h5
                exact ⟨ba, o, rfl, by simpa [World.setCell] using h3, (World.cell?_setCell_far _ _ _ _ (Ne.symm hne)).trans h4⟩
              case measure => first | (simp [intOf]; done) | (simp [intOf]; omega)
            · obtain rfl : k = i := by omega
              have HNX := Lib.hid (atM_next nx k n')
              have i9 : IntKind.i64.wrap ((n' : Int) + 1) = (n' : Int) + 1 := IntWalk.i64_in _ (by omega)
              go_wp2
              go_roundw
              case rel => exact ⟨n' + 1, by omega, by omega, by go_num, by rw [← HNX.out]; exact HA, HR, HB⟩
              case measure => first | (simp [intOf]; done) | (simp [intOf]; omega)
end Go.Proofs.Ytdimfbmbomgiaaa
/-
  Contract of the law's shown.
-/
namespace Go.Proofs.Ytdimfbmbomgiaaa
open Go.RowKit
def exW : List Wk := [⟨1, 0, ⟨#[67, 84]⟩⟩]
theorem ex_loops0 : loopsR 2 exW 0 = [[0, 1, 3, 2]] ∧ seE 2 exW 0 = 0 := by decide +kernel
theorem ex_loops1 : loopsR 2 exW 1 = [[0, 3], [1], [2]] ∧ seE 2 exW 1 = 0 := by decide +kernel
theorem ex_per : perR 2 exW 0 = 4 := by decide +kernel
theorem ex_kn : knR 2 exW 1 = [(0, 1), (1, 0)] ∧ kcR 2 exW 1 = 1 := by decide +kernel
theorem ex_few : fewR 2 exW = (0, 1) ∧ schk 2 exW = 0 := by decide +kernel
theorem ex_rep : repE 2 exW 201 = 2 := by decide +kernel
theorem knHeld : Try.prog.stoodInHeld 40 = false := by kernel_rfl
theorem eql_kn (a b a' b' : Int) (w : World) : (binOp .eql 40 (.agg #[.int .i64 a, .int .i64 b]) (.agg #[.int .i64 a', .int .i64 b'])).run Try.prog w = .ok (.bool (a == a' && b == b')) w := by
  have e1 := knHeld
  cases h1 : a == a' <;> cases h2 : b == b' <;>
  simp [go_sem, e1, h1, h2, Try.underlying40, Try.underlying3]
theorem neq_kn (a b a' b' : Int) (w : World) : (binOp .neq 40 (.agg #[.int .i64 a, .int .i64 b]) (.agg #[.int .i64 a', .int .i64 b'])).run Try.prog w = .ok (.bool (!(a == a' && b == b'))) w := by
  have e1 := knHeld
  cases h1 : a == a' <;> cases h2 : b == b' <;>
  simp [go_sem, e1, h1, h2, Try.underlying40, Try.underlying3]
theorem rd1_lits (w : World) (l : List Nat) : Rd1 vNat (w.alloc (.cells (l.map vNat).toArray 3)) (w.alloc (.cells (l.map vNat).toArray 3)).heap.size (some ⟨w.heap.size, 0, none⟩) l := fun k x hx => by
  have h : Has (w.alloc (.cells (l.map vNat).toArray 3)) w.heap.size 3 (l.map vNat) := Has.new rfl
  exact ⟨w.heap.size, 0, rfl, h.lt, by rw [Nat.zero_add, h.cell, List.getElem?_map, hx]; rfl⟩
theorem rdL_has {W : World} {g : Nat} {t : TypeId} {ls : List (List Nat)} {vs : List Value} (h : Has W g t vs) (hv : ∀ (k : Nat) (l : List Nat), ls[k]? = some l → ∃ A' c', vs[k]? = some (.slice A' l.length c') ∧ Rd1 vNat W W.heap.size A' l) : RdL W W.heap.size (some ⟨g, 0, none⟩) ls := fun k l hl => by
  obtain ⟨A', c', h1, h2⟩ := hv k l hl
  exact ⟨g, 0, A', c', rfl, h.lt, by rw [Nat.zero_add, h.cell]; exact h1, h2⟩
theorem rd1_has {W : World} {g : Nat} {t : TypeId} {l : List Nat} (h : Has W g t (l.map vNat)) : Rd1 vNat W W.heap.size (some ⟨g, 0, none⟩) l := fun k x hx => by
  exact ⟨g, 0, rfl, h.lt, by rw [Nat.zero_add, h.cell, List.getElem?_map, hx]; rfl⟩
theorem has_new {w1 : World} {n : Nat} {cs : List Value} {t : TypeId} (hw : w1.heap.size = n) : Has (w1.alloc (.cells cs.toArray t)) n t cs := by
  subst hw; exact Has.new rfl
attribute [local go_sem 10000] eql_kn
set_option maxRecDepth 100000 in
set_option maxHeartbeats 4000000 in
theorem shown10 (w : World) : Calls Try.prog 10 #[] w fun e w' => e = .returned (.bool true) ∧ Below w.heap.size w w' := by
  have hs : ∀ x ∈ exW, x.word.size ≤ 9223372036854775807 := by decide
  have hl : exW.length = 1 := rfl
  obtain ⟨l0, l1⟩ := ex_loops0
  obtain ⟨l2, l3⟩ := ex_loops1
  obtain ⟨k0, k1⟩ := ex_kn
  obtain ⟨f0, f1⟩ := ex_few
  have r1 := rep_bad ex_rep (by decide)
  have C1 := Lib.hid (fun (A : Option Addr) (W : World) (hw : RdW W W.heap.size A exW) => loops16 2 A 1 1 0 exW W (by omega) hw hl hs)
  have C2 := Lib.hid (fun (A : Option Addr) (W : World) (hw : RdW W W.heap.size A exW) => loops16 2 A 1 1 1 exW W (by omega) hw hl hs)
  have C3 := Lib.hid (fun (A : Option Addr) (W : World) (hw : RdW W W.heap.size A exW) => period19 2 A 1 1 0 exW W (by omega) hw hl hs)
  have C4 := Lib.hid (fun (A : Option Addr) (W : World) (hw : RdW W W.heap.size A exW) => knots14 2 A 1 1 1 exW W (by omega) hw hl hs)
  have C5 := Lib.hid (fun (A : Option Addr) (W : World) (hw : RdW W W.heap.size A exW) => fewest21 2 A 1 1 exW W (by omega) hw hl hs)
  have C6 := Lib.hid (fun (A : Option Addr) (W : World) (hw : RdW W W.heap.size A exW) => repeat11 2 A 1 1 201 exW W (by omega) hw hl hs)
  rw [l0, l1] at C1
  rw [l2, l3] at C2
  rw [ex_per, l1] at C3
  rw [k0, k1, l3] at C4
  rw [f0, f1] at C5
  rw [r1.1, r1.2, ex_rep] at C6
  clear l0 l1 l2 l3 k0 k1 f0 f1 r1 hs hl
  have HW0 : Hid (RdW (w.alloc (.cells #[.int .i64 1, .int .i64 0, .string ⟨#[67, 84]⟩] 63)) (w.alloc (.cells #[.int .i64 1, .int .i64 0, .string ⟨#[67, 84]⟩] 63)).heap.size (some ⟨w.heap.size, 0, none⟩) exW) := rdW_one w 1 0 ⟨#[67, 84]⟩ 63
  go_enter Try.func10, Try.ntmps10
  obtain ⟨v0, hv0⟩ : ∃ v0, v0 = (w.alloc (.cells #[.int .i64 1, .int .i64 0, .string ⟨#[67, 84]⟩] 63)).alloc (.cells #[.int .i64 2, .slice (some ⟨w.heap.size, 0, none⟩) 1 1] 24) := ⟨_, rfl⟩
  have HS0 : Hid (Has v0 (w.heap.size + 1) 24 [.int .i64 2, .slice (some ⟨w.heap.size, 0, none⟩) 1 1]) := by
    have h1 := Has.new (w := w.alloc (.cells #[.int .i64 1, .int .i64 0, .string ⟨#[67, 84]⟩] 63)) (arr := #[.int .i64 2, .slice (some ⟨w.heap.size, 0, none⟩) 1 1]) (t := 24) rfl
    rw [World.size_alloc] at h1
    show Has _ _ _ _
    rw [hv0]; exact h1
  have HR0 : Hid (RdW v0 v0.heap.size (some ⟨w.heap.size, 0, none⟩) exW) := by
    show RdW _ _ _ _
    rw [hv0]; exact HW0.out.up (by go_grown)
  have HB0 : Hid (Below w.heap.size w v0) := by
    show Below _ _ _
    rw [hv0]; go_grown
  clear HW0
  go_wp2_with fail
  rw [← hv0]
  clear hv0
  refine (C1.out _ v0 HR0.out).mono ?_
  rintro e v1 ⟨A1, n1, c1, rfl, ra, la, hn1, hc1, hb⟩
  have HS1 := Lib.hid (HS0.out.below hb HS0.out.lt)
  have HR1 := Lib.hid (HR0.out.up hb)
  have HB1 := Lib.hid (bvia HB0.out hb)
  have RA1 := Lib.hid ra
  simp only [List.length_cons, List.length_nil] at la
  subst la
  clear ra
  have s0 : v1.cell? ⟨w.heap.size + 1, 0, none⟩ = some (.int .i64 2) := HS1.out.cell 0
  have s1 : v1.cell? ⟨w.heap.size + 1, 1, none⟩ = some (.slice (some ⟨w.heap.size, 0, none⟩) 1 1) := HS1.out.cell 1
  have sq := HS1.out.lt
  clear HS0 HR0 HB0 hb
  go_wp2_with fail
  refine (C2.out _ v1 HR1.out).mono ?_
  rintro e v2 ⟨A2, n2, c2, rfl, rb, lb, hn2, hc2, hb⟩
  have HS2 := Lib.hid (HS1.out.below hb HS1.out.lt)
  have HR2 := Lib.hid (HR1.out.up hb)
  have HB2 := Lib.hid (bvia HB1.out hb)
  have RA2 := Lib.hid (RA1.out.up hb)
  have RB2 := Lib.hid rb
  simp only [List.length_cons, List.length_nil] at lb
  subst lb
  clear rb RA1 s0 s1 sq
  have s0 : v2.cell? ⟨w.heap.size + 1, 0, none⟩ = some (.int .i64 2) := HS2.out.cell 0
  have s1 : v2.cell? ⟨w.heap.size + 1, 1, none⟩ = some (.slice (some ⟨w.heap.size, 0, none⟩) 1 1) := HS2.out.cell 1
  have sq := HS2.out.lt
  clear HS1 HR1 HB1 hb
  go_wp2_with fail
  refine (C3.out _ v2 HR2.out).mono ?_
  rintro e v3 ⟨rfl, hb⟩
  have HS3 := Lib.hid (HS2.out.below hb HS2.out.lt)
  have HR3 := Lib.hid (HR2.out.up hb)
  have HB3 := Lib.hid (bvia HB2.out hb)
  have RA3 := Lib.hid (RA2.out.up hb)
  have RB3 := Lib.hid (RB2.out.up hb)
  clear RA2 RB2 s0 s1 sq
  have s0 : v3.cell? ⟨w.heap.size + 1, 0, none⟩ = some (.int .i64 2) := HS3.out.cell 0
  have s1 : v3.cell? ⟨w.heap.size + 1, 1, none⟩ = some (.slice (some ⟨w.heap.size, 0, none⟩) 1 1) := HS3.out.cell 1
  have sq := HS3.out.lt
  clear HS2 HR2 HB2 hb
  go_wp2_with fail
  refine (C4.out _ v3 HR3.out).mono ?_
  rintro e v4 ⟨A4, n4, c4, rfl, rk, lk, hn4, hc4, hb⟩
  have HS4 := Lib.hid (HS3.out.below hb HS3.out.lt)
  have HR4 := Lib.hid (HR3.out.up hb)
  have HB4 := Lib.hid (bvia HB3.out hb)
  have RA4 := Lib.hid (RA3.out.up hb)
  have RB4 := Lib.hid (RB3.out.up hb)
  have RK4 := Lib.hid rk
  simp only [List.length_cons, List.length_nil] at lk
  subst lk
  clear RA3 RB3 rk s0 s1 sq
  have s0 : v4.cell? ⟨w.heap.size + 1, 0, none⟩ = some (.int .i64 2) := HS4.out.cell 0
  have s1 : v4.cell? ⟨w.heap.size + 1, 1, none⟩ = some (.slice (some ⟨w.heap.size, 0, none⟩) 1 1) := HS4.out.cell 1
  have sq := HS4.out.lt
  clear HS3 HR3 HB3 hb
  go_wp2_with fail
  refine (C5.out _ v4 HR4.out).mono ?_
  rintro e v5 ⟨rfl, hb⟩
  have HS5 := Lib.hid (HS4.out.below hb HS4.out.lt)
  have HR5 := Lib.hid (HR4.out.up hb)
  have HB5 := Lib.hid (bvia HB4.out hb)
  have RA5 := Lib.hid (RA4.out.up hb)
  have RB5 := Lib.hid (RB4.out.up hb)
  have RK5 := Lib.hid (RK4.out.up hb)
  clear RA4 RB4 RK4 s0 s1 sq
  have s0 : v5.cell? ⟨w.heap.size + 1, 0, none⟩ = some (.int .i64 2) := HS5.out.cell 0
  have s1 : v5.cell? ⟨w.heap.size + 1, 1, none⟩ = some (.slice (some ⟨w.heap.size, 0, none⟩) 1 1) := HS5.out.cell 1
  have sq := HS5.out.lt
  clear HS4 HR4 HB4 hb
  go_wp2_with fail
  refine (C6.out _ v5 HR5.out).mono ?_
  rintro e v6 ⟨A6, n6, c6, rfl, _, _, _, _, hb⟩
  have HS6 := Lib.hid (HS5.out.below hb HS5.out.lt)
  have HR6 := Lib.hid (HR5.out.up hb)
  have HB6 := Lib.hid (bvia HB5.out hb)
  have RA6 := Lib.hid (RA5.out.up hb)
  have RB6 := Lib.hid (RB5.out.up hb)
  have RK6 := Lib.hid (RK5.out.up hb)
  clear RA5 RB5 RK5 s0 s1 sq
  have s0 : v6.cell? ⟨w.heap.size + 1, 0, none⟩ = some (.int .i64 2) := HS6.out.cell 0
  have s1 : v6.cell? ⟨w.heap.size + 1, 1, none⟩ = some (.slice (some ⟨w.heap.size, 0, none⟩) 1 1) := HS6.out.cell 1
  have sq := HS6.out.lt
  clear HS5 HR5 HB5 hb
  clear s0 s1 sq HS6 HR6
  obtain ⟨b4, o4, e4, hb4, k00, k01⟩ := RK6.out 0 _ rfl
  obtain ⟨b5, o5, e5, hb5, k10, k11⟩ := RK6.out 1 _ rfl
  rw [e4] at e5
  injection e5 with e5; injection e5 with e5 e6
  subst e5; subst e6
  subst e4
  go_wp2_with fail
  refine Calls.mono (R := fun e w' => e = .returned (.bool ([[0, 1, 3, 2]] == [[0, 1, 3, 2]])) ∧ Below v6.heap.size v6 w') ?_ ?_
  · have hA : Below v6.heap.size v6 (((v6.alloc (.cells #[.int .i64 0, .slice A6 n6 c6] 24)).alloc (.cells #[.int .i64 0, .int .i64 1, .int .i64 3, .int .i64 2] 3)).alloc (.cells #[.slice (some ⟨v6.heap.size + 1, 0, none⟩) 4 4] 52)) := by go_grown
    have h1 : Has ((v6.alloc (.cells #[.int .i64 0, .slice A6 n6 c6] 24)).alloc (.cells (([0, 1, 3, 2] : List Nat).map vNat).toArray 3)) (v6.heap.size + 1) 3 (([0, 1, 3, 2] : List Nat).map vNat) := has_new (by simp)
    have h2 : Has (((v6.alloc (.cells #[.int .i64 0, .slice A6 n6 c6] 24)).alloc (.cells (([0, 1, 3, 2] : List Nat).map vNat).toArray 3)).alloc (.cells ([.slice (some ⟨v6.heap.size + 1, 0, none⟩) 4 4] : List Value).toArray 52)) (v6.heap.size + 1 + 1) 52 [.slice (some ⟨v6.heap.size + 1, 0, none⟩) 4 4] := has_new (by simp)
    have h3 := h1.alloc (.cells ([.slice (some ⟨v6.heap.size + 1, 0, none⟩) 4 4] : List Value).toArray 52)
    refine (same18 A1 (some ⟨v6.heap.size + 1 + 1, 0, none⟩) 1 1 c1 1 [[0, 1, 3, 2]] [[0, 1, 3, 2]] _ (by omega) (by omega) (RA6.out.up hA) (rdL_has h2 (fun k l hk => ?_)) rfl rfl (by simp) (by simp)).mono ?_
    · match k, hk with
      | 0, hk =>
        simp at hk; subst hk
        exact ⟨_, _, rfl, rd1_has h3⟩
      | k + 1, hk => simp at hk
    · rintro e w' ⟨rfl, hb⟩
      exact ⟨rfl, bvia hA hb⟩
  rintro e v7 ⟨rfl, hb7⟩
  have HS7 : Hid (RdL v7 v7.heap.size A2 [[0, 3], [1], [2]]) := RB6.out.up hb7
  have x00 := (hb7.cell (p := ⟨b4, _, none⟩) hb4).trans k00
  have x01 := (hb7.cell (p := ⟨b4, _, none⟩) hb4).trans k01
  have x10 := (hb7.cell (p := ⟨b4, _, none⟩) hb4).trans k10
  have x11 := (hb7.cell (p := ⟨b4, _, none⟩) hb4).trans k11
  have HX := Lib.hid (And.intro x00 (And.intro x01 (And.intro x10 x11)))
  have HB7 := Lib.hid (bvia HB6.out hb7)
  have hb47 := Nat.lt_of_lt_of_le hb4 hb7.size
  clear k00 k01 k10 k11 x00 x01 x10 x11 RA6 RB6 RK6 HB6 hb7 hb4 hb5
  go_wp2_with fail
  refine Calls.mono (R := fun e w' => e = .returned (.bool ([[0, 3], [1], [2]] == [[0, 3], [1], [2]])) ∧ Below v7.heap.size v7 w') ?_ ?_
  · have h1 : Has (v7.alloc (.cells (([0, 3] : List Nat).map vNat).toArray 3)) v7.heap.size 3 (([0, 3] : List Nat).map vNat) := has_new rfl
    have h2 : Has ((v7.alloc (.cells (([0, 3] : List Nat).map vNat).toArray 3)).alloc (.cells (([1] : List Nat).map vNat).toArray 3)) (v7.heap.size + 1) 3 (([1] : List Nat).map vNat) := has_new (by simp)
    have h3 : Has (((v7.alloc (.cells (([0, 3] : List Nat).map vNat).toArray 3)).alloc (.cells (([1] : List Nat).map vNat).toArray 3)).alloc (.cells (([2] : List Nat).map vNat).toArray 3)) (v7.heap.size + 1 + 1) 3 (([2] : List Nat).map vNat) := has_new (by simp)
    have h4 : Has ((((v7.alloc (.cells (([0, 3] : List Nat).map vNat).toArray 3)).alloc (.cells (([1] : List Nat).map vNat).toArray 3)).alloc (.cells (([2] : List Nat).map vNat).toArray 3)).alloc (.cells ([.slice (some ⟨v7.heap.size, 0, none⟩) 2 2, .slice (some ⟨v7.heap.size + 1, 0, none⟩) 1 1, .slice (some ⟨v7.heap.size + 1 + 1, 0, none⟩) 1 1] : List Value).toArray 52)) (v7.heap.size + 1 + 1 + 1) 52 ([.slice (some ⟨v7.heap.size, 0, none⟩) 2 2, .slice (some ⟨v7.heap.size + 1, 0, none⟩) 1 1, .slice (some ⟨v7.heap.size + 1 + 1, 0, none⟩) 1 1] : List Value) := has_new (by simp)
    have k1 := ((h1.alloc (.cells (([1] : List Nat).map vNat).toArray 3)).alloc (.cells (([2] : List Nat).map vNat).toArray 3)).alloc (.cells ([.slice (some ⟨v7.heap.size, 0, none⟩) 2 2, .slice (some ⟨v7.heap.size + 1, 0, none⟩) 1 1, .slice (some ⟨v7.heap.size + 1 + 1, 0, none⟩) 1 1] : List Value).toArray 52)
    have k2 := (h2.alloc (.cells (([2] : List Nat).map vNat).toArray 3)).alloc (.cells ([.slice (some ⟨v7.heap.size, 0, none⟩) 2 2, .slice (some ⟨v7.heap.size + 1, 0, none⟩) 1 1, .slice (some ⟨v7.heap.size + 1 + 1, 0, none⟩) 1 1] : List Value).toArray 52)
    have k3 := h3.alloc (.cells ([.slice (some ⟨v7.heap.size, 0, none⟩) 2 2, .slice (some ⟨v7.heap.size + 1, 0, none⟩) 1 1, .slice (some ⟨v7.heap.size + 1 + 1, 0, none⟩) 1 1] : List Value).toArray 52)
    have hA : Below v7.heap.size v7 ((((v7.alloc (.cells (([0, 3] : List Nat).map vNat).toArray 3)).alloc (.cells (([1] : List Nat).map vNat).toArray 3)).alloc (.cells (([2] : List Nat).map vNat).toArray 3)).alloc (.cells ([.slice (some ⟨v7.heap.size, 0, none⟩) 2 2, .slice (some ⟨v7.heap.size + 1, 0, none⟩) 1 1, .slice (some ⟨v7.heap.size + 1 + 1, 0, none⟩) 1 1] : List Value).toArray 52)) := by go_grown
    refine (same18 A2 (some ⟨v7.heap.size + 1 + 1 + 1, 0, none⟩) 3 3 c2 3 [[0, 3], [1], [2]] [[0, 3], [1], [2]] _ (by omega) (by omega) (HS7.out.up hA) (rdL_has h4 (fun k l hk => ?_)) rfl rfl (by simp) (by simp)).mono ?_
    · match k, hk with
      | 0, hk =>
        simp at hk; subst hk
        exact ⟨_, _, rfl, rd1_has k1⟩
      | 1, hk =>
        simp at hk; subst hk
        exact ⟨_, _, rfl, rd1_has k2⟩
      | 2, hk =>
        simp at hk; subst hk
        exact ⟨_, _, rfl, rd1_has k3⟩
      | k + 3, hk => simp at hk
    · rintro e w' ⟨rfl, hb⟩
      exact ⟨rfl, bvia hA hb⟩
  rintro e v8 ⟨rfl, hb8⟩
  obtain ⟨x00, x01, x10, x11⟩ := HX.out
  have y00 := (hb8.cell (p := ⟨b4, _, none⟩) hb47).trans x00
  have y01 := (hb8.cell (p := ⟨b4, _, none⟩) hb47).trans x01
  have y10 := (hb8.cell (p := ⟨b4, _, none⟩) hb47).trans x10
  have y11 := (hb8.cell (p := ⟨b4, _, none⟩) hb47).trans x11
  have HB8 := Lib.hid (bvia HB7.out hb8)
  clear x00 x01 x10 x11 HX HS7 HB7 hb8
  simp only [Nat.zero_mul, Nat.one_mul, Nat.add_zero] at y00 y01 y10 y11
  go_wp2
  go_ret
  exact ⟨rfl, HB8.out⟩
end Go.Proofs.Ytdimfbmbomgiaaa
/-
  Two works compared by == and !=, as the model runs it.
-/
namespace Go.Proofs.Ytdimfbmbomgiaaa
open Go.RowKit
theorem wkHeld : Try.prog.stoodInHeld 63 = false := by kernel_rfl
theorem wkGuard : Try.prog.eqGuardType Try.prog.depth 63 = false := by kernel_rfl
theorem wk_beq (x y : Wk) : (x == y) = (x.kind == y.kind && (x.at_ == y.at_ && x.word.toList == y.word.toList)) := by
  rw [Bool.eq_iff_iff]
  simp only [beq_iff_eq, Bool.and_eq_true, ByteArray.toList_eq]
  constructor
  · rintro rfl; exact ⟨rfl, rfl, rfl⟩
  · rintro ⟨h1, h2, h3⟩
    cases x with | mk a b c => cases y with | mk a' b' c' =>
      simp only at h1 h2 h3
      subst h1; subst h2
      have : c = c' := by
        cases c with | mk c => cases c' with | mk c' =>
          simp only [ByteArray.mk.injEq]
          exact Array.toList_inj.1 h3
      rw [this]
theorem neq_wk (x y : Wk) (w : World) : (binOp .neq 63 (.agg #[.int .i64 x.kind, .int .i64 x.at_, .string x.word]) (.agg #[.int .i64 y.kind, .int .i64 y.at_, .string y.word])).run Try.prog w = .ok (.bool (!(x == y))) w := by
  have e1 := wkHeld
  rw [wk_beq]
  cases h1 : x.kind == y.kind <;> cases h2 : x.at_ == y.at_ <;> cases h3 : x.word.toList == y.word.toList <;>
  simp [go_sem, e1, h1, h2, h3, Try.underlying63, Try.underlying3, Try.underlying9]
theorem eql_wk (x y : Wk) (w : World) : (binOp .eql 63 (.agg #[.int .i64 x.kind, .int .i64 x.at_, .string x.word]) (.agg #[.int .i64 y.kind, .int .i64 y.at_, .string y.word])).run Try.prog w = .ok (.bool (x == y)) w := by
  have e1 := wkHeld
  rw [wk_beq]
  cases h1 : x.kind == y.kind <;> cases h2 : x.at_ == y.at_ <;> cases h3 : x.word.toList == y.word.toList <;>
  simp [go_sem, e1, h1, h2, h3, Try.underlying63, Try.underlying3, Try.underlying9]
end Go.Proofs.Ytdimfbmbomgiaaa
/-
  Contract of torchonref04.Same: two sheets are equal.
-/
namespace Go.Proofs.Ytdimfbmbomgiaaa
open Go.RowKit
attribute [local go_sem 10000] neq_wk
set_option maxRecDepth 100000 in
set_option maxHeartbeats 400000 in
theorem same04 (p q : Int) (A B : Option Addr) (n m c d : Nat) (xs ys : List Wk) (w : World) (hn : n ≤ 9223372036854775807) (hm : m ≤ 9223372036854775807) (hx : RdW w w.heap.size A xs) (hy : RdW w w.heap.size B ys) (hl : xs.length = n) (hl' : ys.length = m) :
    Calls Try.prog 13 #[.agg #[.int .i64 p, .slice A n c], .agg #[.int .i64 q, .slice B m d]] w fun e w' => e = .returned (.bool (p == q && xs == ys)) ∧ Below w.heap.size w w' := by
  have HX := Lib.hid hx; clear hx
  have HY := Lib.hid hy; clear hy
  have HL := Lib.hid hl; clear hl
  have HM := Lib.hid hl'; clear hl'
  by_cases hpq : p = q
  · subst hpq
    by_cases hnm : n = m
    · subst hnm
      go_enter Try.func13, Try.ntmps13
      go_wp2
      go_loopw [5] (fun i wr => ∃ k : Nat, k ≤ n ∧ i = .int .i64 k ∧ Below w.heap.size w wr ∧ wr.cell? ⟨w.heap.size, 1, none⟩ = some (.slice A n c) ∧ wr.cell? ⟨w.heap.size + 1, 1, none⟩ = some (.slice B n d) ∧ (∀ (j : Nat) (x : Wk), j < k → xs[j]? = some x → ys[j]? = some x)) (fun i _ => n - (intOf i).toNat)
      case atStart => exact ⟨0, Nat.zero_le _, rfl, by go_grown, by go_simp, by go_simp, fun j _ hj => absurd hj (by omega)⟩
      case round =>
        obtain ⟨k, hk, rfl, hbw, d1, d2, hno⟩ := hrel
        have H := Lib.hid hno; clear hno
        by_cases hlt : k < n
        · obtain ⟨x, hx⟩ := get_of_lt (l := xs) (k := k) (by rw [HL.out]; exact hlt)
          obtain ⟨y, hy⟩ := get_of_lt (l := ys) (k := k) (by rw [HM.out]; exact hlt)
          obtain ⟨b, o, rfl, hb, c1, c2, c3⟩ := (HX.out.below hbw (Nat.le_refl _)) k x hx
          obtain ⟨b', o', rfl, hb', c1', c2', c3'⟩ := (HY.out.below hbw (Nat.le_refl _)) k y hy
          have HX' := Lib.hid hx; clear hx
          have HY' := Lib.hid hy; clear hy
          have e2 := wkGuard
          go_wp2
          go_quiet (fail)
          go_wp2
          · go_ret
            exact ⟨ret_bool (by rw [beq_self_eq_true, Bool.true_and]; exact beq_false (ne_of_get HX'.out HY'.out (by simpa using ‹(!x == y) = true›))), below_drewN hbw _⟩
          · go_roundw
            case rel => exact ⟨k + 1, by omega, by go_num, below_drewN hbw _, by go_simp, by go_simp, pw_step H.out HX'.out HY'.out (by simpa using ‹(!x == y) = false›)⟩
            case measure => simp [intOf]; omega
        · go_wp2
          go_ret
          exact ⟨ret_bool (by rw [beq_self_eq_true, Bool.true_and]; exact beq_true (eq_of_get (by rw [HL.out, HM.out]) (fun j x hx => H.out j x (by have := lt_of_get hx; rw [HL.out] at this; omega) hx))), hbw⟩
    · go_enter Try.func13, Try.ntmps13
      go_wp2
      go_ret
      exact ⟨ret_bool (by rw [beq_self_eq_true, Bool.true_and]; exact beq_false (ne_of_len HL.out HM.out hnm)), by go_grown⟩
  · go_enter Try.func13, Try.ntmps13
    go_wp2
    go_ret
    exact ⟨ret_bool (by rw [show (p == q) = false by simpa using hpq]; rfl), by go_grown⟩
end Go.Proofs.Ytdimfbmbomgiaaa
/-
  Walks of the laws SeamsRepeat and SeamsFewest.
-/
namespace Go.Proofs.Ytdimfbmbomgiaaa
open Go.RowKit
set_option maxRecDepth 100000 in
set_option maxHeartbeats 2000000 in
theorem repeatOf (p : Int) (A : Option Addr) (n c : Nat) (t : Int) (ws : List Wk) (w : World) (hn : n ≤ 9223372036854775807) (hw : RdW w w.heap.size A ws) (hl : ws.length = n) (hs : ∀ x ∈ ws, x.word.size ≤ 9223372036854775807) :
    Calls Try.prog 3 #[.agg #[.int .i64 p, .slice A n c], .int .i64 t] w fun e w' => e = .returned (.bool true) ∧ Below w.heap.size w w' := by
  have CF := Lib.hid (fun (W : World) (hb : Below w.heap.size w W) => far24 p A n c ws W hn (hw.up hb) hl hs)
  have C1 := Lib.hid (fun (W : World) (hb : Below w.heap.size w W) => repeat11 p A n c t ws W hn (hw.up hb) hl hs)
  have C2 := Lib.hid (fun (W : World) (hb : Below w.heap.size w W) => repeat12 p A n c t ws W hn (hw.up hb) hl hs)
  have K0 : Has (w.alloc (.cells #[.int .i64 p, .slice A n c] 24)) w.heap.size 24 [.int .i64 p, .slice A n c] := Has.new rfl
  clear hw hl hs
  go_enter Try.func3, Try.ntmps3
  go_wp2_with fail
  refine (CF.out _ (by go_grown)).mono ?_
  rintro e w1 ⟨⟨b, rfl⟩, hb1⟩
  have B1 := Lib.hid (bvia (show Below w.heap.size w _ by go_grown) hb1)
  have HK := Lib.hid (K0.below hb1 K0.lt)
  clear K0 hb1 CF
  cases b with
  | true =>
    go_wp2_with fail
    refine (shown10 _).mono ?_
    rintro e w2 ⟨rfl, hb2⟩
    go_wp2
    go_ret
    exact ⟨rfl, bvia B1.out hb2⟩
  | false =>
    have a0 : w1.cell? ⟨w.heap.size, 0, none⟩ = some (.int .i64 p) := HK.out.cell 0
    have a1 : w1.cell? ⟨w.heap.size, 1, none⟩ = some (.slice A n c) := HK.out.cell 1
    have q := HK.out.lt
    go_wp2_with fail
    refine (C1.out _ B1.out).mono ?_
    rintro e w2 ⟨A2, n2, c2, rfl, r2, l2, hn2, hc2, hb2⟩
    have B2 := Lib.hid (bvia B1.out hb2)
    have HK2 := Lib.hid (HK.out.below hb2 HK.out.lt)
    obtain ⟨v2, hv2⟩ : ∃ v2, v2 = w2.alloc (.cells #[.int .i64 (repP p ws t), .slice A2 n2 c2] 24) := ⟨_, rfl⟩
    have HX : Hid (Has v2 w2.heap.size 24 [.int .i64 (repP p ws t), .slice A2 n2 c2]) := by show Has _ _ _ _; rw [hv2]; exact Has.new rfl
    have HA : Hid (Below w2.heap.size w2 v2) := by show Below _ _ _; rw [hv2]; go_grown
    have R2 := Lib.hid (r2.up HA.out)
    have B3 := Lib.hid (bvia B2.out HA.out)
    have HK3 := Lib.hid (HK2.out.below HA.out HK2.out.lt)
    have b0 : v2.cell? ⟨w.heap.size, 0, none⟩ = some (.int .i64 p) := HK3.out.cell 0
    have b1 : v2.cell? ⟨w.heap.size, 1, none⟩ = some (.slice A n c) := HK3.out.cell 1
    have q3 := HK3.out.lt
    have q2 := HK2.out.lt
    clear a0 a1 q hb2 HK B1 r2 HK2 B2 HA
    go_upto_region 4 with (fail)
    rw [← hv2]
    clear hv2
    go_wp2_with fail
    refine (C2.out _ B3.out).mono ?_
    rintro e w4 ⟨A4, n4, c4, rfl, r4, l4, hn4, hc4, hb4⟩
    have B4 := Lib.hid (bvia B3.out hb4)
    have HX4 := Lib.hid (HX.out.below hb4 HX.out.lt)
    have R24 := Lib.hid (R2.out.up hb4)
    have R4 := Lib.hid r4
    have x0 : w4.cell? ⟨w2.heap.size, 0, none⟩ = some (.int .i64 (repP p ws t)) := HX4.out.cell 0
    have x1 : w4.cell? ⟨w2.heap.size, 1, none⟩ = some (.slice A2 n2 c2) := HX4.out.cell 1
    have xq := HX4.out.lt
    clear b0 b1 q3 hb4 r4 HK3 B3 HX R2
    have CS := Lib.hid (fun (W : World) (hb : Below w4.heap.size w4 W) => same04 (repP p ws t) (repP p ws t) A2 A4 n2 n4 c2 c4 (repL p ws t) (repL p ws t) W (Nat.le_trans hn2 hc2) (Nat.le_trans hn4 hc4) (R24.out.up hb) (R4.out.up hb) l2 l4)
    have HT : Hid ((repP p ws t == repP p ws t && repL p ws t == repL p ws t) = true) := by show _ = _; simp
    go_wp2_with fail
    refine (CS.out _ (by go_grown)).mono ?_
    rintro e w5 ⟨rfl, hb5⟩
    rw [HT.out]
    have B5 := Lib.hid (bvia B4.out (bvia (show Below w4.heap.size w4 _ by go_grown) hb5))
    clear x0 x1 xq hb5 CS
    go_wp2_with fail
    refine (shown10 _).mono ?_
    rintro e w6 ⟨rfl, hb6⟩
    go_wp2
    go_ret
    exact ⟨rfl, bvia B5.out hb6⟩
set_option maxRecDepth 100000 in
set_option maxHeartbeats 2000000 in
theorem fewestOf (p : Int) (A : Option Addr) (n c : Nat) (ws : List Wk) (w : World) (hn : n ≤ 9223372036854775807) (hw : RdW w w.heap.size A ws) (hl : ws.length = n) (hs : ∀ x ∈ ws, x.word.size ≤ 9223372036854775807) :
    Calls Try.prog 5 #[.agg #[.int .i64 p, .slice A n c]] w fun e w' => e = .returned (.bool true) ∧ Below w.heap.size w w' := by
  have CF := Lib.hid (fun (W : World) (hb : Below w.heap.size w W) => far24 p A n c ws W hn (hw.up hb) hl hs)
  have C1 := Lib.hid (fun (W : World) (hb : Below w.heap.size w W) => fewest21 p A n c ws W hn (hw.up hb) hl hs)
  have C2 := Lib.hid (fun (W : World) (hb : Below w.heap.size w W) => fewest22 p A n c ws W hn (hw.up hb) hl hs)
  have K0 : Has (w.alloc (.cells #[.int .i64 p, .slice A n c] 24)) w.heap.size 24 [.int .i64 p, .slice A n c] := Has.new rfl
  clear hw hl hs
  go_enter Try.func5, Try.ntmps5
  go_wp2_with fail
  refine (CF.out _ (by go_grown)).mono ?_
  rintro e w1 ⟨⟨b, rfl⟩, hb1⟩
  have B1 := Lib.hid (bvia (show Below w.heap.size w _ by go_grown) hb1)
  have HK := Lib.hid (K0.below hb1 K0.lt)
  clear K0 hb1 CF
  cases b with
  | true =>
    go_wp2_with fail
    refine (shown10 _).mono ?_
    rintro e w2 ⟨rfl, hb2⟩
    go_wp2
    go_ret
    exact ⟨rfl, bvia B1.out hb2⟩
  | false =>
    have a0 : w1.cell? ⟨w.heap.size, 0, none⟩ = some (.int .i64 p) := HK.out.cell 0
    have a1 : w1.cell? ⟨w.heap.size, 1, none⟩ = some (.slice A n c) := HK.out.cell 1
    have q := HK.out.lt
    generalize (fewR p ws).1 = x1 at *
    generalize (fewR p ws).2 = x2 at *
    generalize schk p ws = er at *
    go_wp2_with fail
    refine (C1.out _ B1.out).mono ?_
    rintro e w2 ⟨rfl, hb2⟩
    have B2 := Lib.hid (bvia B1.out hb2)
    have HK2 := Lib.hid (HK.out.below hb2 HK.out.lt)
    clear a0 a1 q hb2 HK B1
    have a0 : w2.cell? ⟨w.heap.size, 0, none⟩ = some (.int .i64 p) := HK2.out.cell 0
    have a1 : w2.cell? ⟨w.heap.size, 1, none⟩ = some (.slice A n c) := HK2.out.cell 1
    have q := HK2.out.lt
    go_wp2_with fail
    refine (C2.out _ B2.out).mono ?_
    rintro e w3 ⟨rfl, hb3⟩
    have B3 := Lib.hid (bvia B2.out hb3)
    have d1 : ((x1 : Int) == (x1 : Int)) = true := by simp
    have d2 : ((x2 : Int) == (x2 : Int)) = true := by simp
    have d3 : (er == er) = true := by simp
    clear a0 a1 q hb3 HK2 B2
    go_wp2_with fail
    refine (shown10 _).mono ?_
    rintro e w4 ⟨rfl, hb4⟩
    go_wp2
    go_ret
    exact ⟨rfl, bvia B3.out hb4⟩
end Go.Proofs.Ytdimfbmbomgiaaa
/-
  Arguments of the statements read as words: a sheet, a work.
-/
namespace Go.Proofs.Ytdimfbmbomgiaaa
open Go.RowKit Go.ChangeShapes Go.WideShapes Go.ChangeAt Go.Joins Go.Deep
theorem maxLen_le : maxLen ≤ 9223372036854775807 := by simp [maxLen]
instance : Inhabited Wk := ⟨⟨0, 0, ⟨#[]⟩⟩⟩
theorem cellsWk : Try.prog.cellsOf 63 = 3 := by kernel_rfl
theorem cellsSheet : Try.prog.cellsOf 24 = 2 := by kernel_rfl
theorem cellsI : Try.prog.cellsOf 3 = 1 := by kernel_rfl
theorem cellsS : Try.prog.cellsOf 9 = 1 := by kernel_rfl
section
variable {H : Type} {enc : TypeId × Value → H} {w : World} {held : Bool}
set_option maxRecDepth 100000 in
/-- the three cells of a work -/
theorem cells_wk {n : Nat} {cs : List Value} {x : DataW H × List MemPlace} {sp : Nat → Bool} {base : Nat} (h : DataW.trod enc Try.prog w base sp held n 63 cs = some x) :
    ∃ y : Wk, cs = [.int .i64 y.kind, .int .i64 y.at_, .string y.word] ∧ y.word.size ≤ 9223372036854775807 := by
  obtain ⟨y0, y1, y2, m, _, hl, h0, h1, h2⟩ := trod_struct3 Try.underlying63 h
  rw [cellsWk] at hl
  match cs, hl with
  | [v0, v1, v2], _ =>
    simp [cellsI, cellsS] at h0 h1 h2
    obtain ⟨k, e0, _, _⟩ := DataW.trod_int Try.underlying3 h0
    obtain ⟨a, e1, _, _⟩ := DataW.trod_int Try.underlying3 h1
    obtain ⟨s, e2, _, hs⟩ := DataW.trod_string Try.underlying9 h2
    simp at e0 e1 e2
    subst e0 e1 e2
    exact ⟨⟨k, a, s⟩, rfl, Nat.le_trans hs maxLen_le⟩
set_option maxRecDepth 100000 in
/-- a cell that reads as a slice of works -/
theorem cell_wks {n : Nat} {v : Value} {x : DataW H × List MemPlace} (h : DataW.trod enc Try.prog w 0 (fun _ => true) held n 22 [v] = some x) :
    ∃ (A : Option Addr) (n c : Nat) (ws : List Wk), v = .slice A n c ∧ n ≤ c ∧ c ≤ 9223372036854775807 ∧ RdW w w.heap.size A ws ∧ ws.length = n ∧ (∀ y ∈ ws, y.word.size ≤ 9223372036854775807) := by
  rcases open_slice Try.underlying22 h with ⟨hv, _⟩ | ⟨a, len, cap, m, q, D, Pl, hv, _, hl, hc, hm, hx, hcs⟩
  · simp at hv
    exact ⟨none, 0, 0, [], hv, Nat.le_refl _, by omega, RdW.nil _ _ _, rfl, by simp⟩
  · simp only [if_true] at hm
    subst hm
    simp at hv
    have each : ∀ i, i < len → ∃ y : Wk, y.word.size ≤ 9223372036854775807 ∧ w.cell? (a.add (i * 3)) = some (.int .i64 y.kind) ∧ w.cell? (a.add (i * 3 + 1)) = some (.int .i64 y.at_) ∧ w.cell? (a.add (i * 3 + 2)) = some (.string y.word) := by
      intro i hi
      obtain ⟨cs', h1, h2⟩ := hcs i (by omega)
      rw [cellsWk] at h1
      obtain ⟨_, hlen, hcell⟩ := World.cells?_some h1
      obtain ⟨y, rfl, hy⟩ := cells_wk h2
      have e0 := hcell 0 (by omega)
      have e1 := hcell 1 (by omega)
      have e2 := hcell 2 (by omega)
      rw [add_add] at e0 e1 e2
      exact ⟨y, hy, by simpa using e0, by simpa using e1, by simpa using e2⟩
    obtain ⟨X, hX⟩ := choose_lt each
    refine ⟨some a, len, m, (List.range len).map X, hv, hl, Nat.le_trans hc maxLen_le, ?_, by simp, ?_⟩
    · intro k x hx
      have hk : k < len := by have := lt_of_get hx; simpa using this
      have : X k = x := by simpa [hk] using hx
      subst this
      obtain ⟨_, c0, c1, c2⟩ := hX k hk
      obtain ⟨b, o, spot⟩ := a
      have z0 := (hX 0 (by omega)).2.1
      rw [Nat.zero_mul] at z0
      have hs : spot = none := by simpa [Addr.add] using World.cell?_spot z0
      subst hs
      simp only [Addr.add_lit] at c0 c1 c2
      refine ⟨b, o, rfl, ?_, c0, by rw [Nat.add_assoc]; exact c1, by rw [Nat.add_assoc]; exact c2⟩
      refine Nat.lt_of_not_le fun hge => ?_
      have : w.cell? ⟨b, o + k * 3, none⟩ = none := by
        simp [World.cell?, Array.getElem?_eq_none hge]
      rw [this] at c0; cases c0
    · intro y hy
      simp at hy
      obtain ⟨k, hk, rfl⟩ := hy
      exact (hX k hk).1
set_option maxRecDepth 100000 in
/-- an argument that is a sheet -/
theorem openSheet {r : Reach} {b0 : Nat} {v : Value} {d : DataW H} {ps : List MemPlace} (hv : Value.okWide Try.prog w r b0 24 v) (h : DataW.Trod enc Try.prog w 0 (fun _ => true) held 24 v d ps) :
    ∃ (p : Int) (A : Option Addr) (n c : Nat) (ws : List Wk), v = .agg #[.int .i64 p, .slice A n c] ∧ n ≤ c ∧ c ≤ 9223372036854775807 ∧ RdW w w.heap.size A ws ∧ ws.length = n ∧ (∀ y ∈ ws, y.word.size ≤ 9223372036854775807) := by
  obtain ⟨c0, c1, y0, y1, m, rfl, rfl, rfl, h0, h1⟩ := open_agg2 Try.underlying24 (by kernel_rfl) cellsSheet hv h
  obtain ⟨p, e0, _, _⟩ := DataW.trod_int Try.underlying3 h0
  simp at e0
  subst e0
  obtain ⟨A, n, c, ws, rfl, h2, h3, h4, h5, h6⟩ := cell_wks h1
  exact ⟨p, A, n, c, ws, rfl, h2, h3, h4, h5, h6⟩
set_option maxRecDepth 100000 in
/-- an argument that is a work -/
theorem openWork {r : Reach} {b0 : Nat} {v : Value} {d : DataW H} {ps : List MemPlace} {sp : Nat → Bool} (hv : Value.okWide Try.prog w r b0 63 v) (h : DataW.Trod enc Try.prog w 0 sp held 63 v d ps) :
    ∃ (k a : Int) (s : ByteArray), v = .agg #[.int .i64 k, .int .i64 a, .string s] ∧ s.size ≤ 9223372036854775807 := by
  obtain ⟨c0, c1, c2, y0, y1, y2, m, rfl, rfl, rfl, h0, h1, h2⟩ := open_agg3 Try.underlying63 (by kernel_rfl) cellsWk hv h
  obtain ⟨k, e0, _, _⟩ := DataW.trod_int Try.underlying3 h0
  obtain ⟨a, e1, _, _⟩ := DataW.trod_int Try.underlying3 h1
  obtain ⟨s, e2, _, hs⟩ := DataW.trod_string Try.underlying9 h2
  simp at e0 e1 e2
  subst e0 e1 e2
  exact ⟨k, a, s, rfl, Nat.le_trans hs maxLen_le⟩
end
end Go.Proofs.Ytdimfbmbomgiaaa
