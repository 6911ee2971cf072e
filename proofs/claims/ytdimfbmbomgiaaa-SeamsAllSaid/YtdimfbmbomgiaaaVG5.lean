/-
  Contract of cloth.Check: the document's error.
-/
import Derived.Test.YtdimfbmbomgiaaaVG4
import Derived.TacticsIn
import Derived.Laws.StructEq
import Derived.Laws.Cover3
namespace Go.Proofs.Ytdimfbmbomgiaaa
open Go.RowKit
attribute [local go_sem] Oper.semAt_some
theorem next_all {g : Bool} {p : Q4 → Bool} {xs : List Q4} {k : Nat} {x : Q4} {gb r : Bool} (hG : (g && (xs.take k).all p) = gb) (hx : xs[k]? = some x) (hr : p x = r) : (g && (xs.take (k + 1)).all p) = (gb && r) := by
  rw [all_step hx, ← Bool.and_assoc, hG, hr]
theorem okP_r {t : Int} {x : Q4} {r : Bool} (h : (decide (0 ≤ x.b ∧ x.b ≤ t - 2 ∧ 0 ≤ x.a ∧ 0 ≤ x.c ∧ x.c ≤ t - 1 ∧ 0 ≤ x.d ∧ x.d ≤ t - 1 ∧ ¬ x.c = x.d)) = r) : okP t x = r := by
  subst h
  unfold okP
  rw [Bool.eq_iff_iff]
  simp
  omega
theorem okC_r {t : Int} {x : Q4} {r : Bool} (h : (decide (0 ≤ x.b ∧ x.b ≤ t - 2 ∧ 0 ≤ x.a)) = r) : okC t x = r := by
  subst h
  unfold okC
  rw [Bool.eq_iff_iff]
  simp
  omega
theorem eqArr2 (a b c d : Int) (w : World) : (Op.equalIn 10000 119 (.agg #[.int .i64 a, .int .i64 b]) (.agg #[.int .i64 c, .int .i64 d])).run Try.prog w = .ok (a == c && b == d) w := by
  have u3 := Try.underlying3
  have a3 := Try.isAgg3
  have z3 := Try.sizeOf3
  rw [show (10000 : Nat) = 9999 + 1 from rfl, Op.equalIn]
  simp only [Sem.run_bind, run_underlying Try.underlying119, Result.andThen_ok]
  simp only [Std.Legacy.Range.forIn_eq_forIn_range', Std.Legacy.Range.size, Nat.sub_zero, Nat.add_sub_cancel, Nat.div_one, List.range'_succ, List.range'_zero, List.forIn_cons, List.forIn_nil]
  go_simp
  by_cases h1 : a = c <;> by_cases h2 : b = d <;> simp [h1, h2]
theorem eqArr2_is {a b c d : Int} {r : Bool} (h : (a == c && b == d) = r) (w : World) : (Op.equalIn 10000 119 (.agg #[.int .i64 a, .int .i64 b]) (.agg #[.int .i64 c, .int .i64 d])).run Try.prog w = .ok r w := by
  rw [eqArr2, h]
set_option maxRecDepth 100000 in
set_option maxHeartbeats 8000000 in
theorem check42 (t : Int) (A B : Option Addr) (n c m d : Nat) (xs ps : List Q4) (w : World) (hn : n ≤ 9223372036854775807) (hm : m ≤ 9223372036854775807) (hx : RdQ w w.heap.size A xs) (hp : RdQ w w.heap.size B ps) (hl : xs.length = n) (hl' : ps.length = m) (ht0 : -9223372036854775808 ≤ t) :
    Calls Try.prog 66 #[vCloth t A n c B m d] w fun e w' => e = .returned (.int .i64 (ckE t xs ps)) ∧ Below w.heap.size w w' := by
  have HX := Lib.hid hx; clear hx
  have HP := Lib.hid hp; clear hp
  have HL := Lib.hid hl; have HL' := Lib.hid hl'
  have K0 : Has ((w.alloc (.cells #[.int .i64 t, .slice A n c, .slice B m d] 49)).alloc (.cells #[.int .i64 0] 27)) w.heap.size 49 [.int .i64 t, .slice A n c, .slice B m d] := (Has.new rfl).alloc _
  have K1 : Has ((w.alloc (.cells #[.int .i64 t, .slice A n c, .slice B m d] 49)).alloc (.cells #[.int .i64 0] 27)) (w.heap.size + 1) 27 [.int .i64 0] := Has.new2 rfl
  have B0 : Below w.heap.size w ((w.alloc (.cells #[.int .i64 t, .slice A n c, .slice B m d] 49)).alloc (.cells #[.int .i64 0] 27)) := by go_grown
  have HK0 := Lib.hid K0; have HK1 := Lib.hid K1; have HB0 := Lib.hid B0; clear K0 K1 B0
  by_cases h1 : 48 < t
  · have e : ckE t xs ps = 3 := by unfold ckE; rw [if_pos (by omega)]
    rw [e]; clear e
    refine (callsIn_wide (n := 0)).1 (callsIn_of_wp_marks Try.func66 rfl trivial ?_)
    simp only [Try.ntmps66, List.size_toArray, List.length_cons, List.length_nil, Nat.reduceAdd, Nat.reduceSub, Array.replicate_succ, Array.replicate_zero, List.push_toArray, List.append_toArray, List.nil_append, List.cons_append]
    refine wpIn_wide.2 ?_
    go_wp2
    refine postM_ret (Has.new2 rfl) rfl rfl Try.isAgg27 rfl ?_
    exact ⟨rfl, by go_grown⟩
  by_cases h2 : 20000 < (n : Int)
  · have e : ckE t xs ps = 3 := by unfold ckE; rw [if_pos (by omega)]
    rw [e]; clear e
    refine (callsIn_wide (n := 0)).1 (callsIn_of_wp_marks Try.func66 rfl trivial ?_)
    simp only [Try.ntmps66, List.size_toArray, List.length_cons, List.length_nil, Nat.reduceAdd, Nat.reduceSub, Array.replicate_succ, Array.replicate_zero, List.push_toArray, List.append_toArray, List.nil_append, List.cons_append]
    refine wpIn_wide.2 ?_
    go_wp2
    refine postM_ret (Has.new2 rfl) rfl rfl Try.isAgg27 rfl ?_
    exact ⟨rfl, by go_grown⟩
  by_cases h3 : 6400 < (m : Int)
  · have e : ckE t xs ps = 3 := by unfold ckE; rw [if_pos (by omega)]
    rw [e]; clear e
    refine (callsIn_wide (n := 0)).1 (callsIn_of_wp_marks Try.func66 rfl trivial ?_)
    simp only [Try.ntmps66, List.size_toArray, List.length_cons, List.length_nil, Nat.reduceAdd, Nat.reduceSub, Array.replicate_succ, Array.replicate_zero, List.push_toArray, List.append_toArray, List.nil_append, List.cons_append]
    refine wpIn_wide.2 ?_
    go_wp2
    refine postM_ret (Has.new2 rfl) rfl rfl Try.isAgg27 rfl ?_
    exact ⟨rfl, by go_grown⟩
  have HR : Hid (ckE t xs ps = if numsOk t xs ps = false then 2 else if endsOk t xs = false then 6 else 0) := by show ckE t xs ps = _; unfold ckE; rw [if_neg (by omega)]
  generalize ckE t xs ps = r at *
  have d1 : decide (48 < t) = false := decide_eq_false h1
  have d2 : decide ((20000 : Int) < n) = false := decide_eq_false h2
  have d3 : decide ((6400 : Int) < m) = false := decide_eq_false h3
  clear hl hl'
  refine (callsIn_wide (n := 0)).1 (callsIn_of_wp_marks Try.func66 rfl trivial ?_)
  simp only [Try.ntmps66, List.size_toArray, List.length_cons, List.length_nil, Nat.reduceAdd, Nat.reduceSub, Array.replicate_succ, Array.replicate_zero, List.push_toArray, List.append_toArray, List.nil_append, List.cons_append]
  refine wpIn_wide.2 ?_
  go_wp2
  go_loopw [3, 32] (fun g i wr => ∃ k : Nat, k ≤ n ∧ g = .bool (decide (2 ≤ t) && (xs.take k).all (okC t)) ∧ i = .int .i64 (k : Int) ∧ Below w.heap.size w wr ∧ Has wr w.heap.size 49 [.int .i64 t, .slice A n c, .slice B m d] ∧ Has wr (w.heap.size + 1) 27 [.int .i64 0]) (fun _ i _ => n - (intOf i).toNat)
  case atStart => exact ⟨0, Nat.zero_le _, by simp, rfl, HB0.out, HK0.out, HK1.out⟩
  case round =>
    clear HB0 HK0 HK1
    obtain ⟨k, hk, rfl, rfl, hb, hh, hh1⟩ := hrel
    obtain ⟨wo, rfl⟩ : ∃ wo : World, wo = wr := ⟨_, rfl⟩
    have HH := Lib.hid hh
    have a0 : wo.cell? ⟨w.heap.size, 0, none⟩ = some (.int .i64 t) := hh.cell 0
    have a1 : wo.cell? ⟨w.heap.size, 1, none⟩ = some (.slice A n c) := hh.cell 1
    have a2 : wo.cell? ⟨w.heap.size, 2, none⟩ = some (.slice B m d) := hh.cell 2
    have q := hh.lt
    have HE := Lib.hid hh1
    clear hh hh1
    by_cases hlt : k < n
    · obtain ⟨x, hx⟩ := get_of_lt (l := xs) (k := k) (by rw [HL.out]; exact hlt)
      obtain ⟨ba, o, rfl, hba, c0, c1, c2, c3⟩ := (HX.out.below hb hb.size) _ x hx
      have HXk := Lib.hid hx; clear hx
      generalize hG : (decide (2 ≤ t) && (xs.take k).all (okC t)) = gb
      have HG := Lib.hid hG
      cases gb with
      | false =>
        clear hG
        go_wp2
        go_roundw
        case rel => exact ⟨k + 1, by omega, by rw [next_all HG.out HXk.out rfl]; rfl, by go_num, hb.alloc (by omega) _, HH.out.alloc _, HE.out.alloc _⟩
        case measure => first | (simp [intOf]; done) | (simp [intOf]; omega)
      | true =>
        have h2t : 2 ≤ t := by simp only [Bool.and_eq_true, decide_eq_true_eq] at hG; exact hG.1
        clear hG
        have i1 : IntKind.i64.wrap (t - 2) = t - 2 := IntWalk.i64_in _ (by omega)
        have H2t := Lib.hid h2t; clear h2t
        by_cases hin : 0 ≤ x.b ∧ x.b ≤ t - 2
        · have hd : (decide (0 ≤ x.b) && decide (x.b ≤ t - 2)) = true := by simp; exact hin
          go_wp2_with (go_at_call 71; refine (in56 _ _ _ true _ hd).mono ?_; rintro e w1 ⟨rfl, rfl⟩)
          go_roundw
          case rel => exact ⟨k + 1, by omega, by rw [next_all HG.out HXk.out (okC_r (r := decide (0 ≤ x.a)) (by congr 1; simp; omega))]; rfl, by go_num, hb.alloc (by omega) _, HH.out.alloc _, HE.out.alloc _⟩
          case measure => first | (simp [intOf]; done) | (simp [intOf]; omega)
        · have hd : (decide (0 ≤ x.b) && decide (x.b ≤ t - 2)) = false := by simp; omega
          go_wp2_with (go_at_call 71; refine (in56 _ _ _ false _ hd).mono ?_; rintro e w1 ⟨rfl, rfl⟩)
          go_roundw
          case rel => exact ⟨k + 1, by omega, by rw [next_all HG.out HXk.out (okC_r (r := false) (by simp; omega))]; rfl, by go_num, hb.alloc (by omega) _, HH.out.alloc _, HE.out.alloc _⟩
          case measure => first | (simp [intOf]; done) | (simp [intOf]; omega)
    · obtain rfl : k = n := by omega
      have HA' : Hid (xs.take k = xs) := List.take_of_length_le (by rw [HL.out]; exact Nat.le_refl _)
      rw [HA'.out]
      clear HA'
      generalize hG1 : (decide (2 ≤ t) && xs.all (okC t)) = g1
      have HG1 := Lib.hid hG1
      clear hG1
      go_wp2
      go_loopw [3, 54] (fun g i wr => ∃ j : Nat, j ≤ m ∧ g = .bool (g1 && (ps.take j).all (okP t)) ∧ i = .int .i64 (j : Int) ∧ Below w.heap.size w wr ∧ Has wr w.heap.size 49 [.int .i64 t, .slice A k c, .slice B m d] ∧ Has wr (w.heap.size + 1) 27 [.int .i64 0]) (fun _ i _ => m - (intOf i).toNat)
      case atStart => exact ⟨0, Nat.zero_le _, by simp, rfl, hb, HH.out, HE.out⟩
      case round =>
        clear HH HE hb a0 a1 a2 q
        obtain ⟨j, hj, rfl, rfl, hb, hh, hh1⟩ := hrel
        obtain ⟨wo, rfl⟩ : ∃ wo : World, wo = wr := ⟨_, rfl⟩
        have HH := Lib.hid hh
        have a0 : wo.cell? ⟨w.heap.size, 0, none⟩ = some (.int .i64 t) := hh.cell 0
        have a1 : wo.cell? ⟨w.heap.size, 1, none⟩ = some (.slice A k c) := hh.cell 1
        have a2 : wo.cell? ⟨w.heap.size, 2, none⟩ = some (.slice B m d) := hh.cell 2
        have q := hh.lt
        have HE := Lib.hid hh1
        have q1 := hh1.lt
        have e0 : wo.cell? ⟨w.heap.size + 1, 0, none⟩ = some (.int .i64 0) := hh1.cell 0
        have e1 := hh1.free 0
        clear hh hh1
        by_cases hlt : j < m
        · clear e0 e1
          obtain ⟨x, hx⟩ := get_of_lt (l := ps) (k := j) (by rw [HL'.out]; exact hlt)
          obtain ⟨ba, o, rfl, hba, c0, c1, c2, c3⟩ := (HP.out.below hb hb.size) _ x hx
          have HXk := Lib.hid hx; clear hx
          generalize hG : (g1 && (ps.take j).all (okP t)) = gb
          have HG := Lib.hid hG
          cases gb with
          | false =>
            clear hG
            go_wp2
            go_roundw
            case rel => exact ⟨j + 1, by omega, by rw [next_all HG.out HXk.out rfl]; rfl, by go_num, hb.alloc (by omega) _, HH.out.alloc _, HE.out.alloc _⟩
            case measure => first | (simp [intOf]; done) | (simp [intOf]; omega)
          | true =>
            have h2t : 2 ≤ t := by
              have h1 := HG1.out
              simp only [Bool.and_eq_true] at hG
              rw [hG.1] at h1
              simp only [Bool.and_eq_true, decide_eq_true_eq] at h1; exact h1.1
            clear hG
            have i1 : IntKind.i64.wrap (t - 2) = t - 2 := IntWalk.i64_in _ (by omega)
            have i2 : IntKind.i64.wrap (t - 1) = t - 1 := IntWalk.i64_in _ (by omega)
            have H2t := Lib.hid h2t; clear h2t
            by_cases hin : 0 ≤ x.b ∧ x.b ≤ t - 2
            · have hd : (decide (0 ≤ x.b) && decide (x.b ≤ t - 2)) = true := by simp; exact hin
              by_cases hw : 0 ≤ x.a
              · have hdw : decide (0 ≤ x.a) = true := decide_eq_true hw
                by_cases hc : 0 ≤ x.c ∧ x.c ≤ t - 1
                · have hdc : (decide (0 ≤ x.c) && decide (x.c ≤ t - 1)) = true := by simp; exact hc
                  by_cases hdd : 0 ≤ x.d ∧ x.d ≤ t - 1
                  · have hd2 : (decide (0 ≤ x.d) && decide (x.d ≤ t - 1)) = true := by simp; exact hdd
                    go_wp2_with (go_at_call 71; refine (in56 _ _ _ true _ (by assumption)).mono ?_; rintro e w1 ⟨rfl, rfl⟩)
                    go_roundw
                    case rel => exact ⟨j + 1, by omega, by rw [next_all HG.out HXk.out (okP_r (r := (x.c != x.d)) (by rw [Bool.eq_iff_iff]; simp; omega))]; rfl, by go_num, hb.alloc (by omega) _, HH.out.alloc _, HE.out.alloc _⟩
                    case measure => first | (simp [intOf]; done) | (simp [intOf]; omega)
                  · have hd2 : (decide (0 ≤ x.d) && decide (x.d ≤ t - 1)) = false := by simp; omega
                    go_wp2_with (go_at_call 71; first | (refine (in56 _ _ _ true _ (by assumption)).mono ?_; rintro e w1 ⟨rfl, rfl⟩) | (refine (in56 _ _ _ false _ (by assumption)).mono ?_; rintro e w1 ⟨rfl, rfl⟩))
                    go_roundw
                    case rel => exact ⟨j + 1, by omega, by rw [next_all HG.out HXk.out (okP_r (r := false) (by simp; omega))]; rfl, by go_num, hb.alloc (by omega) _, HH.out.alloc _, HE.out.alloc _⟩
                    case measure => first | (simp [intOf]; done) | (simp [intOf]; omega)
                · have hdc : (decide (0 ≤ x.c) && decide (x.c ≤ t - 1)) = false := by simp; omega
                  go_wp2_with (go_at_call 71; first | (refine (in56 _ _ _ true _ (by assumption)).mono ?_; rintro e w1 ⟨rfl, rfl⟩) | (refine (in56 _ _ _ false _ (by assumption)).mono ?_; rintro e w1 ⟨rfl, rfl⟩))
                  go_roundw
                  case rel => exact ⟨j + 1, by omega, by rw [next_all HG.out HXk.out (okP_r (r := false) (by simp; omega))]; rfl, by go_num, hb.alloc (by omega) _, HH.out.alloc _, HE.out.alloc _⟩
                  case measure => first | (simp [intOf]; done) | (simp [intOf]; omega)
              · have hdw : decide (0 ≤ x.a) = false := decide_eq_false hw
                go_wp2_with (go_at_call 71; refine (in56 _ _ _ true _ (by assumption)).mono ?_; rintro e w1 ⟨rfl, rfl⟩)
                go_roundw
                case rel => exact ⟨j + 1, by omega, by rw [next_all HG.out HXk.out (okP_r (r := false) (by simp; omega))]; rfl, by go_num, hb.alloc (by omega) _, HH.out.alloc _, HE.out.alloc _⟩
                case measure => first | (simp [intOf]; done) | (simp [intOf]; omega)
            · have hd : (decide (0 ≤ x.b) && decide (x.b ≤ t - 2)) = false := by simp; omega
              go_wp2_with (go_at_call 71; refine (in56 _ _ _ false _ hd).mono ?_; rintro e w1 ⟨rfl, rfl⟩)
              go_roundw
              case rel => exact ⟨j + 1, by omega, by rw [next_all HG.out HXk.out (okP_r (r := false) (by simp; omega))]; rfl, by go_num, hb.alloc (by omega) _, HH.out.alloc _, HE.out.alloc _⟩
              case measure => first | (simp [intOf]; done) | (simp [intOf]; omega)
        · obtain rfl : j = m := by omega
          have HN : Hid (numsOk t xs ps = (g1 && ps.all (okP t))) := by
            show numsOk t xs ps = _
            unfold numsOk; rw [HG1.out]
          have HA' : Hid (ps.take j = ps) := List.take_of_length_le (by rw [HL'.out]; exact Nat.le_refl _)
          rw [HA'.out]
          clear HA'
          generalize hN : (g1 && ps.all (okP t)) = ok at *
          cases ok with
          | false =>
            have HF : Hid (2 = r) := by
              show 2 = r
              rw [HR.out, if_pos HN.out]
            clear HR HN hN
            go_wp2
            refine postM_ret (HE.out.set 0 (.int .i64 2)) rfl rfl Try.isAgg27 rfl ?_
            exact ⟨ret_int HF.out, hb.setCell (by simp) _⟩
          | true =>
            have HF : Hid (r = if endsOk t xs = false then 6 else 0) := by
              show r = _
              rw [HR.out, if_neg (by rw [HN.out]; simp)]
            have HP3 : Hid (2 ≤ t ∧ ∀ x ∈ xs, okC t x = true) := by
              obtain ⟨p1, p2, p3⟩ := numsOk_parts HN.out
              exact ⟨p1, p2⟩
            clear HR HN hN HP HG1
            go_wp2_with fail
            refine (begun57 _).mono ?_
            rintro e w1 ⟨rfl, hb1⟩
            have hlen : ((lineL 48).map vInt).length = 48 := by simp [lineL_len]
            have hinfo : (Try.prog.info? 109).map (·.size) = some 48 := by kernel_rfl
            have hz := hb.size
            have hz1 := hb1.size
            have B1 := bvia hb hb1
            have q2 : w.heap.size < w1.heap.size := by omega
            have k0 := (hb1.cell (p := ⟨w.heap.size, 0, none⟩) q).trans a0
            have k1 := (hb1.cell (p := ⟨w.heap.size, 1, none⟩) q).trans a1
            have k2 := (hb1.cell (p := ⟨w.heap.size, 2, none⟩) q).trans a2
            have HE1 := Lib.hid (HE.out.below hb1 q1)
            have q3 := HE1.out.lt
            clear HH HE a0 a1 a2 e0 e1 hb hb1
            go_wp2_with (first
              | (refine wpList_store_has rfl 109 (.tmp 8) (.tmp 98) rfl w1.heap.size ((lineL 48).map vInt) rfl rfl 109 _ (Has.new rfl) (by rw [hlen, hinfo]) (by rw [hlen]; rfl) (by simp [lineL]; intros; rfl) ?_
                 intro w2 hG2 hBut
                 have hb2 : Below w1.heap.size w1 w2 := ((Below.refl _ w1).alloc (Nat.le_refl _) _).trans (hBut.below (Nat.le_refl _) (by simp))
                 have b0 := (hb2.cell (p := ⟨w.heap.size, 0, none⟩) q2).trans k0
                 have b1 := (hb2.cell (p := ⟨w.heap.size, 1, none⟩) q2).trans k1
                 have b2 := (hb2.cell (p := ⟨w.heap.size, 2, none⟩) q2).trans k2
                 have HE2 := Lib.hid (HE1.out.below hb2 q3)
                 have HG2 := Lib.hid hG2
                 clear hBut k0 k1 k2 hG2)
              | (go_at_call 72; refine (crossings58 _ _ t A B k c j d _ rfl).mono ?_; rintro e w3 ⟨rfl, hs3, c1, c2, hb3⟩))
            have hs2 : w1.heap.size < w2.heap.size := HG2.out.lt
            have C1 : w3.cell? ⟨w2.heap.size, 1, none⟩ = some (.slice A k c) := c1.cell 1
            have C2 : w3.cell? ⟨w2.heap.size + 1, 0, none⟩ = some (.pointer (some ⟨w1.heap.size, 0, none⟩)) := c2.cell 0
            have HE3 := HE2.out.below hb3 (by omega)
            have HG3 := HG2.out.below hb3 hs2
            have B3 := bvia (bvia B1 hb2) hb3
            clear c1 c2 HE2 HG2 hb2 hb3 b0 b1 b2 HE1 B1
            have hIo : OwnFrom w3.heap.size (fun (pre : List Met) W => (∀ p ∈ pre, metOk p = true) ∧ Has W (w.heap.size + 1) 27 [.int .i64 0] ∧ Below w.heap.size w W) :=
              OwnFrom.and (fun _ _ _ _ hs _ _ => hs) (OwnFrom.and (ownFrom_has (by omega)) (ownFrom_below (Nat.le_refl _) (by omega)))
            have hIxo : OwnFrom w3.heap.size (fun (pre : List Met) W => (∃ ini last, pre = ini ++ [last] ∧ (∀ p ∈ ini, metOk p = true) ∧ metOk last = false) ∧ Has W (w.heap.size + 1) 27 [.int .i64 6] ∧ Below w.heap.size w W) :=
              OwnFrom.and (fun _ _ _ _ hs _ _ => hs) (OwnFrom.and (ownFrom_has (by omega)) (ownFrom_below (Nat.le_refl _) (by omega)))
            refine wpIn_wide.1 (range_law (n := 0) (gf := 75) (lb := #[.pointer (some ⟨w2.heap.size, 0, none⟩), .pointer (some ⟨w2.heap.size + 1, 0, none⟩)]) rfl Try.call75 encM (fun _ => rfl) _ _ (fun ys => ys = came xs (lineL 48) k) (fun ys => ∃ i, i ≤ k ∧ ys = came xs (lineL 48) i) (w.heap.size + 1) hIo hIxo ⟨by simp, HE3, B3⟩ ?iter ?rnd ?done ?stop)
            case iter =>
              intro l dd r0 r1 W hd1 hd2 hKB hMid hY
              have hks := hKB.1
              have hlW := (Array.getElem?_eq_some_iff.1 hMid.rec_).1
              have hxW : RdQ W w.heap.size A xs := HX.out.below hMid.inv.2.2 (Nat.le_refl _)
              have hGW : Has W w1.heap.size 109 ((lineL 48).map vInt) := HG3.same (hKB.2 _ (by omega) (by omega))
              have g1' := (cell_same (a := ⟨w2.heap.size, 1, none⟩) (hKB.2 w2.heap.size (by omega) (by omega))).trans C1
              have g2' := (cell_same (a := ⟨w2.heap.size + 1, 0, none⟩) (hKB.2 (w2.heap.size + 1) (by omega) (by omega))).trans C2
              refine callsIn_wide.2 ((iter64 _ _ l dd (w.heap.size + 1) r0 r1 w2.heap.size (w2.heap.size + 1) w1.heap.size k c j d w.heap.size t A B xs (lineL 48) W ?_ hlW (by omega) (by omega) (by omega) (by omega) (by omega) (by omega) (by omega) g1' g2' (by omega) (by simp [lineL_len]) hxW (by omega) (by omega) (by omega) HL.out ?_ hGW hMid hY (by omega) (by omega) (by omega)).mono ?_)
              · rintro pre V V' ⟨j1, j2, j3⟩ hKC hKO
                refine ⟨j1, j2.same (hKC.same _ j2.lt (by omega)), ?_⟩
                exact ⟨hKC.os.trans j3.os, hKC.tape.trans j3.tape, hKC.output.trans j3.output, Nat.le_trans j3.size hKC.size, fun r hr => (hKC.same r (Nat.lt_of_lt_of_le hr j3.size) (by omega)).trans (j3.block r hr)⟩
              · intro x hx
                have := HP3.out.2 x hx
                unfold okC at this; simp at this; omega
              · rintro e W' ⟨hv, h | ⟨i, hi, h⟩⟩
                · exact ⟨hv, .inl ⟨_, rfl, h⟩⟩
                · exact ⟨hv, .inr ⟨_, ⟨i, hi, rfl⟩, h⟩⟩
            case done =>
              rintro D xs' W hD rfl ⟨j1, j2, j3⟩ hDf
              have e0 := j2.cell 0
              have e1 := j2.free 0
              have HJ2 := Lib.hid j2
              clear j2
              go_wp2
              refine postM_mark (HJ2.out.set 0 (.int .i64 0)) rfl rfl Try.isAgg27 rfl ((Below.heap_setCell W _ _ D (by simp; omega)).trans hDf) ?_
              have hok : endsOk t xs = true := ends_ok HP3.out.1 h1 HP3.out.2 (by rw [HL.out]; exact j1)
              exact ⟨ret_int (by rw [HF.out, hok]; rfl), below_put (j3.setCell (by simp) _) (by omega) _⟩
            case stop =>
              rintro D xs' W hD ⟨i, hi, rfl⟩ ⟨⟨ini, last, j0, j1, j1'⟩, j2, j3⟩ hDf
              refine wpIn_wide.2 ?_
              go_wp2
              refine postM_mark j2 rfl rfl Try.isAgg27 rfl hDf ?_
              have hok : endsOk t xs = false := ends_bad HP3.out.1 h1 HP3.out.2 (by rw [HL.out]; exact hi) j0 j1 j1'
              exact ⟨ret_int (by rw [HF.out, hok]; rfl), below_put j3 (by omega) _⟩
            case rnd =>
              rintro l pre ⟨x, va, vb⟩ W o hl ⟨j1, j2, j3⟩ hWl ho
              have hll := (Array.getElem?_eq_some_iff.1 hWl).1
              have hsz := j3.size
              have hsz2 := j2.lt
              dsimp only [encM]
              gi_wp2
              refine ⟨(KeepsOthers.alloc _ _).trans (KeepsOthers.alloc _ _), ?_⟩
              have X1 : Has ((W.alloc (.cells #[.int .i64 x.a, .int .i64 x.b, .int .i64 x.c, .int .i64 x.d] 83)).alloc (.cells #[.int .i64 va, .int .i64 vb] 119)) W.heap.size 83 [.int .i64 x.a, .int .i64 x.b, .int .i64 x.c, .int .i64 x.d] := (Has.new rfl).alloc _
              have X2 : Has ((W.alloc (.cells #[.int .i64 x.a, .int .i64 x.b, .int .i64 x.c, .int .i64 x.d] 83)).alloc (.cells #[.int .i64 va, .int .i64 vb] 119)) (W.heap.size + 1) 119 [.int .i64 va, .int .i64 vb] := Has.new2 rfl
              have X3 : Below W.heap.size W ((W.alloc (.cells #[.int .i64 x.a, .int .i64 x.b, .int .i64 x.c, .int .i64 x.d] 83)).alloc (.cells #[.int .i64 va, .int .i64 vb] 119)) := by go_grown
              generalize ((W.alloc (.cells #[.int .i64 x.a, .int .i64 x.b, .int .i64 x.c, .int .i64 x.d] 83)).alloc (.cells #[.int .i64 va, .int .i64 vb] 119)) = V at *
              refine ⟨⟨X3.size, fun r hr _ => X3.block r hr⟩, fun o' ho' => ?_⟩
              have X4 := j2.below X3 hsz2
              have X5 := bvia' j3 (Nat.le_refl _) X3
              have hV := X2.lt
              have Y1 := X1.same (w' := V.putObj l o') (World.putObj_heap_other (by omega))
              have Y2 := X2.same (w' := V.putObj l o') (World.putObj_heap_other (by omega))
              have Y4 := X4.same (w' := V.putObj l o') (World.putObj_heap_other (by omega))
              have Y5 := below_put X5 (D := l) (by omega) o'
              clear X1 X2 X3 X4 X5 hWl ho ho' hV
              generalize V.putObj l o' = Y at *
              have y2 : Y.cell? ⟨W.heap.size, 2, none⟩ = some (.int .i64 x.c) := Y1.cell 2
              have y3 : Y.cell? ⟨W.heap.size, 3, none⟩ = some (.int .i64 x.d) := Y1.cell 3
              have z0 : Y.cell? ⟨W.heap.size + 1, 0, none⟩ = some (.int .i64 va) := Y2.cell 0
              have z1 : Y.cell? ⟨W.heap.size + 1, 1, none⟩ = some (.int .i64 vb) := Y2.cell 1
              have e0 : Y.cell? ⟨w.heap.size + 1, 0, none⟩ = some (.int .i64 0) := Y4.cell 0
              have e1 := Y4.free 0
              have HY4 := Lib.hid Y4; clear Y4
              clear Y1 Y2
              cases hA : (va == x.c && vb == x.d) with
              | true =>
                have E1 := eqArr2_is hA
                have hM : metOk (x, va, vb) = true := by show endOk va vb x = true; unfold endOk; rw [hA]; rfl
                have HM := Lib.hid hM; clear hM hA
                gi_wp2
                refine ⟨KeepsOthers.refl _, ⟨Nat.le_refl _, fun _ _ _ => rfl⟩, ?_, HY4.out, Y5⟩
                exact fun p hp => (List.mem_append.1 hp).elim (j1 p) (fun e => by rw [List.mem_singleton.1 e]; exact HM.out)
              | false =>
                have E1 := eqArr2_is hA
                cases hB : (va == x.d && vb == x.c) with
                | true =>
                  have E2 := eqArr2_is hB
                  have hM : metOk (x, va, vb) = true := by show endOk va vb x = true; unfold endOk; rw [hA, Bool.and_comm, hB]; rfl
                  have HM := Lib.hid hM; clear hM hA hB
                  gi_wp2
                  refine ⟨KeepsOthers.refl _, ⟨Nat.le_refl _, fun _ _ _ => rfl⟩, ?_, HY4.out, Y5⟩
                  exact fun p hp => (List.mem_append.1 hp).elim (j1 p) (fun e => by rw [List.mem_singleton.1 e]; exact HM.out)
                | false =>
                  have E2 := eqArr2_is hB
                  have hM : metOk (x, va, vb) = false := by show endOk va vb x = false; unfold endOk; rw [hA, Bool.and_comm, hB]; rfl
                  have HM := Lib.hid hM; clear hM hA hB
                  gi_wp2
                  exact ⟨KeepsOthers.setCell _ _ _, ⟨by simp [World.setCell], fun r _ _ hb' => Below.heap_setCell Y _ _ r hb'⟩, ⟨pre, _, rfl, j1, HM.out⟩, HY4.out.set 0 (.int .i64 6), Y5.setCell (by simp) _⟩
end Go.Proofs.Ytdimfbmbomgiaaa
/-
  Append of a whole slice of ints to a row of the call's own; slices.Clone.
-/
namespace Go.Proofs.Ytdimfbmbomgiaaa
open Go.RowKit
theorem run_app0 {P : Program} (w : World) (t ty e : TypeId) (i : TypeInfo) (ht : P.underlying t = some (.slice e)) (hi : P.info? e = some i) (B : Option Addr) (n d c : Nat) (h : n ≤ d) :
    (Builtin.append_ #[t, t] ty #[.slice B n d, .slice none 0 c]).run P w = .ok (.slice B n d) w := by
  cases B <;> simp [Builtin.append_, run_underlying ht, sizeOf, typeInfo, hi, Builtin.lenOf, Builtin.firstCells, h, storeCells]
theorem rdI_news {w : World} {B b o : Nat} {ds : List Int} (h : RdI w B (some ⟨b, o, none⟩) ds) : ∀ j u, (ds.map vInt)[j]? = some u → w.cell? ((⟨b, o, none⟩ : Addr).add j) = some u := fun j u hu => by
  rw [List.getElem?_map] at hu
  cases hx : ds[j]? with
  | none => rw [hx] at hu; cases hu
  | some x =>
    rw [hx] at hu
    injection hu with hu
    obtain ⟨b', o', e, _, c0⟩ := h j x hx
    injection e with e; injection e with e1 e2
    subst e1 e2
    rw [Addr.add_lit, ← hu]; exact c0
theorem one_ints (ds : List Int) : ∀ u ∈ ds.map vInt, u.oneCell' = true := fun u hu => by
  obtain ⟨x, _, rfl⟩ := List.mem_map.1 hu; rfl
theorem wpList_appI {w : World} {ops : Array Oper} {rest : List Oper} {o : Oper} {a : Act} {Q : Exit → Act → World → Prop} (hgd : o.guard = none) (s x : Operand)
    (ho : o.op = .call { callee := .builtin .append, args := #[s, x], argTypes := #[52, 52] })
    (base : Nat) (v : Value) (n : Nat) (xs : List Int) (hs : a.eval s = v) (hown : w.ownsRow base 3 1 v n (xs.map vInt))
    (A : Option Addr) (m c : Nat) (ds : List Int) (hx : a.eval x = .slice A m c) (hr : RdI w w.heap.size A ds) (hl : ds.length = m)
    (hn : n + m ≤ 1000000000) (hbase : base ≤ w.heap.size)
    (h : ∀ A' c' w', w'.ownsRow base 3 1 (.slice A' (n + m) c') (n + m) ((xs ++ ds).map vInt) → w.grownBy w' v.ownBlock → wpList Try.prog ops Q rest (a.put o.dst (.slice A' (n + m) c')) w') :
    wpList Try.prog ops Q (o :: rest) a w := by
  refine wpList_plain hgd fun K hK => ?_
  cases A with
  | none =>
    have hw0 : ds = [] := by
      cases ds with
      | nil => rfl
      | cons y ws => obtain ⟨b, o', e, _⟩ := hr 0 y rfl; cases e
    subst hw0
    obtain rfl : 0 = m := hl
    obtain ⟨B, d, rfl⟩ := own_form hown
    obtain ⟨i, hi, hz, hsize, hb⟩ := info_parts infoInt
    have hcc := own_caps hown
    have hrun := run_app0 (P := Try.prog) w 52 o.type 3 i Try.underlying52 hi B n d c hcc.1
    unfold Oper.wp execOp
    simp only [ho, resolve, invoke, builtin, Sem.run_bind, Sem.run_pure, Result.andThen_ok, List.map_toArray, List.map_cons, List.map_nil, hs, hx, hrun]
    exact hK _ _ (h B d w (by rw [List.append_nil]; exact hown) ⟨rfl, rfl, rfl, Nat.le_refl _, fun _ _ _ => rfl⟩)
  | some ad =>
    refine wp_appN s x 52 ho base 3 (.int .i64 0) 1 8 Try.underlying52 infoInt rfl (by omega) (by omega) v n (xs.map vInt) hs hown ad m c (ds.map vInt) hx (by rw [List.length_map, hl]; omega) ?_ (one_ints ds) hn hbase ?_
    · cases ds with
      | nil => intro j u hu; simp at hu
      | cons y ws =>
        obtain ⟨b, o', e, _⟩ := hr 0 y rfl
        injection e with e
        subst e
        exact rdI_news hr
    · intro v' w' hown' hgrow' _ _
      obtain ⟨A', c', rfl⟩ := own_form hown'
      exact hK _ _ (h A' c' w' (by rw [List.map_append]; exact hown') hgrow')
/-- an ending: a row of the call's own -/
def RetO (xs : List Int) (w : World) (e : Ending) (w' : World) : Prop := ∃ A n c, e = .returned (.slice A n c) ∧ w'.ownsRow w.heap.size 3 1 (.slice A n c) n (xs.map vInt) ∧ xs.length = n ∧ Below w.heap.size w w'
theorem run_eqlnil {P : Program} (w : World) (t e : TypeId) (a : Option Addr) (l c : Nat) (h : P.underlying t = some (.slice e)) : (binOp .eql t (.slice a l c) (.slice none 0 0)).run P w = .ok (.bool a.isNone) w := by
  unfold binOp
  simp [run_equal_slice_nil w t e a l c h]
set_option maxRecDepth 100000 in
theorem clone48 (A : Option Addr) (n c : Nat) (ds : List Int) (w : World) (hr : RdI w w.heap.size A ds) (hl : ds.length = n) (hn : n ≤ 1000000000) :
    Calls Try.prog 67 #[.slice A n c] w (RetO ds w) := by
  have HR := Lib.hid hr; clear hr
  cases A with
  | none =>
    have h0 : ds = [] := by
      cases ds with
      | nil => rfl
      | cons y ws => obtain ⟨b, o', e, _⟩ := HR.out 0 y rfl; cases e
    subst h0
    have E := fun W => run_eqlnil (P := Try.prog) W 52 3 none n c Try.underlying52
    simp only [Option.isNone_none] at E
    obtain rfl : 0 = n := hl
    go_enter Try.func67, Try.ntmps67
    go_wp2
    go_ret
    exact ⟨none, 0, 0, rfl, World.ownsRow_nil _ _ _ _, rfl, Below.refl _ _⟩
  | some ad =>
    have E := fun W => run_eqlnil (P := Try.prog) W 52 3 (some ad) n c Try.underlying52
    simp only [Option.isNone_some] at E
    go_enter Try.func67, Try.ntmps67
    go_wp2_with (at_builtin; refine wpList_appI rfl (.tmp 5) (.tmp 6) rfl w.heap.size (.slice (some ⟨w.heap.size, 0, none⟩) 0 0) 0 [] rfl (own_lit0 (Nat.le_refl _)) (some ad) n c ds rfl (HR.out.up (by go_grown)) hl (by omega) (by simp) ?_)
    intro A' c' w' hown hgrow
    have hb : Below w.heap.size w w' := ((Below.refl _ w).alloc (Nat.le_refl _) (.cells #[] 3)).grown hgrow (by simp) (fun k hk => by simp [Value.ownBlock] at hk; omega)
    have HO := Lib.hid hown; clear hown
    go_wp2
    go_ret
    exact ⟨A', n, c', by simp, by simpa using HO.out, hl, hb⟩
end Go.Proofs.Ytdimfbmbomgiaaa
/-
  Contracts: stitches.crossings and Crossings (chapter 3).
-/
namespace Go.Proofs.Ytdimfbmbomgiaaa
open Go.RowKit
/-- the crossings of the first k places of a letter -/
def crT (v : List Int) : Nat → List Int
  | 0 => []
  | k + 1 => if v.getD k 0 = 0 then crT v k else crT v k ++ [v.getD k 0 * ((k : Int) + 1)]
/-- the crossings of the first i letters of a word -/
def crW (bs : List UInt8) : Nat → List Int
  | 0 => []
  | i + 1 => match bs[i]? with
    | some c => crW bs i ++ crT (twV c) 3
    | none => crW bs i
theorem crW_succ {bs : List UInt8} {i : Nat} {c : UInt8} (h : bs[i]? = some c) : crW bs (i + 1) = crW bs i ++ crT (twV c) 3 := by
  show (match bs[i]? with | some c => crW bs i ++ crT (twV c) 3 | none => crW bs i) = _
  rw [h]
theorem twV_le (c : UInt8) : ∀ v ∈ twV c, -1 ≤ v ∧ v ≤ 1 := by
  unfold twV
  repeat' split
  all_goals (intro v hv; simp at hv; omega)
theorem ixK (L : List Int) (k : Nat) (v : Int) (h : L[k]? = some v) (hl : L.length = 3) (W : World) : (Instr.index 120 (.agg (L.map vInt).toArray) (.int .i64 (k : Int))).run Try.prog W = .ok (.int .i64 v) W := by
  have z := Try.sizeOf3
  have a := Try.isAgg3
  match L, hl with
  | [v0, v1, v2], _ =>
    match k, h with
    | 0, h =>
      simp at h; subst h
      unfold Instr.index
      simp [asIntOf, Sem.run_bind, run_underlying Try.underlying120, part, z, a, Result.andThen, go_sem]
    | 1, h =>
      simp at h; subst h
      unfold Instr.index
      simp [asIntOf, Sem.run_bind, run_underlying Try.underlying120, part, z, a, Result.andThen, go_sem]
    | 2, h =>
      simp at h; subst h
      unfold Instr.index
      simp [asIntOf, Sem.run_bind, run_underlying Try.underlying120, part, z, a, Result.andThen, go_sem]
    | k + 3, h => simp at h
set_option maxRecDepth 100000 in
set_option maxHeartbeats 2000000 in
theorem crossings62 (s : ByteArray) (w : World) (hs : s.size ≤ 16) (hok : wOk s = true) :
    Calls Try.prog 70 #[.string s] w (RetO (crW s.data.toList s.size) w) := by
  have HOK : Hid (∀ (i : Nat) (hi : i < s.size), isLet s[i] = true ∧ s.data.toList[i]? = some s[i]) := fun i hi => by
    have h1 : s.data.toList[i]? = some s[i] := by
      rw [Array.getElem?_toList]
      exact Array.getElem?_eq_getElem hi
    exact ⟨(List.all_eq_true.1 hok) _ (mem_of_get h1), h1⟩
  clear hok
  go_enter Try.func70, Try.ntmps70
  go_wp2
  go_loopw [3, 9] (fun v i wr => ∃ (j l : Nat) (A' : Option Addr) (c' : Nat), j ≤ s.size ∧ l ≤ 3 * j ∧ i = .int .i64 (j : Int) ∧ v = .slice A' l c' ∧ Hid ((crW s.data.toList j).length = l) ∧ Hid (wr.ownsRow w.heap.size 3 1 v l ((crW s.data.toList j).map vInt)) ∧ Below w.heap.size w wr) (fun _ i _ => s.size - (intOf i).toNat)
  case atStart => exact ⟨0, 0, none, 0, Nat.zero_le _, Nat.le_refl _, rfl, rfl, Lib.hid rfl, Lib.hid (World.ownsRow_nil _ _ _ _), Below.refl _ _⟩
  case round =>
    obtain ⟨j, l, A', c', hj, hlj, rfl, rfl, HLL, HO, hb⟩ := hrel
    obtain ⟨wo, rfl⟩ : ∃ wo : World, wo = wr := ⟨_, rfl⟩
    have hz := hb.size
    by_cases hlt : j < s.size
    · obtain ⟨hlet, hget⟩ := HOK.out j hlt
      have T := Lib.hid (twists72 s[j] hlet wo)
      have HG := Lib.hid hget
      clear hlet hget
      go_wp2_with fail
      refine T.out.mono ?_
      rintro e w2 ⟨rfl, hb2⟩
      have HO2 := Lib.hid (own_below HO.out hb2)
      have B2 := hb.trans (hb2.mono hz)
      clear hb2 T HO hb
      obtain ⟨V, hV⟩ : ∃ V, V = twV s[j] := ⟨_, rfl⟩
      have HV : Hid (V.length = 3 ∧ ∀ v ∈ V, -1 ≤ v ∧ v ≤ 1) := by rw [hV]; exact ⟨twV_len _, twV_le _⟩
      have HS : Hid (crW s.data.toList (j + 1) = crW s.data.toList j ++ crT V 3) := by rw [hV]; exact crW_succ HG.out
      rw [← hV]
      clear hV
      go_wp2
      go_loopw [3, 16] (fun v i wr => ∃ (k l2 : Nat) (A2 : Option Addr) (c2 : Nat), k ≤ 3 ∧ l2 ≤ l + k ∧ i = .int .i64 (k : Int) ∧ v = .slice A2 l2 c2 ∧ Hid ((crW s.data.toList j ++ crT V k).length = l2) ∧ Hid (wr.ownsRow w.heap.size 3 1 v l2 ((crW s.data.toList j ++ crT V k).map vInt)) ∧ Below w.heap.size w wr) (fun _ i _ => 3 - (intOf i).toNat)
      case atStart => exact ⟨0, l, A', c', Nat.zero_le _, by omega, rfl, rfl, Lib.hid (by simp [crT]; exact HLL.out), Lib.hid (by simpa [crT] using HO2.out), B2⟩
      case round =>
        clear HO2 B2
        obtain ⟨k, l2, A2, c2, hk, hlk, rfl, rfl, HL2, HO, hb⟩ := hrel
        obtain ⟨wo, rfl⟩ : ∃ wo : World, wo = wr := ⟨_, rfl⟩
        have hz := hb.size
        by_cases hlt2 : k < 3
        · obtain ⟨v, hv⟩ := get_of_lt (l := V) (k := k) (by rw [HV.out.1]; exact hlt2)
          have hvb := HV.out.2 v (mem_of_get hv)
          have IX := fun W => ixK V k v hv HV.out.1 W
          have hD : V.getD k 0 = v := by rw [List.getD_eq_getElem?_getD, hv]; rfl
          have k3 : (k : Int) < 3 := by omega
          have i1 : IntKind.i64.wrap ((k : Int) + 1) = (k : Int) + 1 := IntWalk.i64_in _ (by omega)
          by_cases h0 : v = 0
          · have d0 : (v != 0) = false := by simpa using h0
            have HS2 : Hid (crT V (k + 1) = crT V k) := by
              show (if V.getD k 0 = 0 then crT V k else crT V k ++ [V.getD k 0 * ((k : Int) + 1)]) = _
              rw [hD, if_pos h0]
            clear h0 hv hD
            go_wp2
            go_roundw
            case rel => exact ⟨k + 1, l2, A2, c2, by omega, by omega, by go_num, rfl, Lib.hid (by rw [HS2.out]; exact HL2.out), Lib.hid (by rw [HS2.out]; exact HO.out), hb⟩
            case measure => first | (simp [intOf]; done) | (simp [intOf]; omega)
          · have d0 : (v != 0) = true := by simpa using h0
            obtain ⟨p, hp⟩ : ∃ p, p = v * ((k : Int) + 1) := ⟨_, rfl⟩
            have hpb : -3 ≤ p ∧ p ≤ 3 := by
              have hk' : k = 0 ∨ k = 1 ∨ k = 2 := by omega
              rcases hk' with rfl | rfl | rfl <;> simp at hp <;> omega
            have i2 : IntKind.i64.wrap (v * ((k : Int) + 1)) = p := by rw [← hp]; exact IntWalk.i64_in _ (by omega)
            have HS2 : Hid (crT V (k + 1) = crT V k ++ [p]) := by
              show (if V.getD k 0 = 0 then crT V k else crT V k ++ [V.getD k 0 * ((k : Int) + 1)]) = _
              rw [hD, if_neg h0, hp]
            clear h0 hv hD hp
            go_wp2_with (at_builtin; refine wpList_app rfl (.tmp 22) (.tmp 27) _ rfl w.heap.size 3 (.int .i64 0) 1 8 Try.underlying52 infoInt rfl (by omega) (by omega) _ _ _ rfl (HO.out.alloc _) wo.heap.size [vInt p] rfl rfl (news_new _ _ _) (one_int _ _) (by omega) (by simp; omega) ?_; intro ga cap1 w7 hg1 hown1 hgrow1 hor1)
            go_roundw
            case rel => exact ⟨k + 1, l2 + 1, some ⟨ga, 0, none⟩, cap1, by omega, by omega, by go_num, rfl, Lib.hid (by rw [HS2.out, ← List.append_assoc, List.length_append, HL2.out]; rfl), Lib.hid (by rw [HS2.out, ← List.append_assoc]; simpa using hown1), (hb.alloc hz _).grown hgrow1 (by simp; omega) (fun kk hk => (HO.out.lt kk hk).1)⟩
            case measure => first | (simp [intOf]; done) | (simp [intOf]; omega)
        · obtain rfl : k = 3 := by omega
          go_wp2
          go_roundw
          case rel => exact ⟨j + 1, l2, A2, c2, by omega, by omega, by go_num, rfl, Lib.hid (by rw [HS.out]; exact HL2.out), Lib.hid (by rw [HS.out]; exact HO.out), hb⟩
          case measure => first | (simp [intOf]; done) | (simp [intOf]; omega)
    · obtain rfl : s.size = j := by omega
      go_wp2
      go_ret
      exact ⟨A', l, c', rfl, HO.out, HLL.out, hb⟩
set_option maxRecDepth 100000 in
theorem crossings39 (s : ByteArray) (w : World) (hs : s.size ≤ 16) (hok : wOk s = true) :
    Calls Try.prog 64 #[.string s] w (RetIE (crW s.data.toList s.size) 0 w) := by
  have C1 := Lib.hid (stCheck s w (by omega))
  rw [wchk_ok hs hok] at C1
  have C2 := Lib.hid (crossings62 s w hs hok)
  clear hok
  go_enter Try.func64, Try.ntmps64
  go_wp2_with fail
  refine C1.out.mono ?_
  rintro e w' ⟨rfl, rfl⟩
  go_wp2_with fail
  refine C2.out.mono ?_
  rintro e w2 ⟨A2, n2, c2, rfl, r2, l2, hb2⟩
  have HR := Lib.hid r2; clear r2
  have hcc := own_caps HR.out
  go_wp2
  go_ret2
  exact ⟨A2, n2, c2, rfl, own_rd1 HR.out, l2, hcc.1, hcc.2, hb2⟩
end Go.Proofs.Ytdimfbmbomgiaaa
