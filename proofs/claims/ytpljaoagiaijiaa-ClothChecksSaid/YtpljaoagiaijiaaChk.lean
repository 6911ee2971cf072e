/-
  Contract of cloth.Check: the document's error.
-/
import Derived.Test.YtpljaoagiaijiaaPair
import Derived.TacticsIn
import Derived.Laws.StructEq
namespace Go.Proofs.Ytpljaoagiaijiaa
open Go.RowKit
attribute [local go_sem] Oper.semAt_some
theorem next_all {g : Bool} {p : Q4 → Bool} {xs : List Q4} {k : Nat} {x : Q4} {gb r : Bool} (hG : (g && (xs.take k).all p) = gb) (hx : xs[k]? = some x) (hr : p x = r) : (g && (xs.take (k + 1)).all p) = (gb && r) := by
  rw [all_step hx, ← Bool.and_assoc, hG, hr]
theorem okP_r {t : Int} {x : Q4} {r : Bool} (h : (decide (0 ≤ x.b ∧ x.b ≤ t - 2 ∧ 0 ≤ x.a ∧ 0 ≤ x.c ∧ x.c ≤ t - 1 ∧ 0 ≤ x.d ∧ x.d ≤ t - 1 ∧ ¬ x.c = x.d)) = r) : okP t x = r := by
  subst h
  unfold okP
  rw [Bool.eq_iff_iff]
  simp
  omega
theorem okC_r {t : Int} {x : Q4} {r : Bool} (h : (decide (0 ≤ x.b ∧ x.b ≤ t - 2 ∧ 0 ≤ x.a)) = r) : okC t x = r := by
  subst h
  unfold okC
  rw [Bool.eq_iff_iff]
  simp
  omega
theorem eqArr2 (a b c d : Int) (w : World) : (Op.equalIn 10000 54 (.agg #[.int .i64 a, .int .i64 b]) (.agg #[.int .i64 c, .int .i64 d])).run Try.prog w = .ok (a == c && b == d) w := by
  have u3 := Try.underlying3
  have a3 := Try.isAgg3
  have z3 := Try.sizeOf3
  rw [show (10000 : Nat) = 9999 + 1 from rfl, Op.equalIn]
  simp only [Sem.run_bind, run_underlying Try.underlying54, Result.andThen_ok]
  simp only [Std.Legacy.Range.forIn_eq_forIn_range', Std.Legacy.Range.size, Nat.sub_zero, Nat.add_sub_cancel, Nat.div_one, List.range'_succ, List.range'_zero, List.forIn_cons, List.forIn_nil]
  go_simp
  by_cases h1 : a = c <;> by_cases h2 : b = d <;> simp [h1, h2]
theorem eqArr2_is {a b c d : Int} {r : Bool} (h : (a == c && b == d) = r) (w : World) : (Op.equalIn 10000 54 (.agg #[.int .i64 a, .int .i64 b]) (.agg #[.int .i64 c, .int .i64 d])).run Try.prog w = .ok r w := by
  rw [eqArr2, h]
set_option maxRecDepth 100000 in
set_option maxHeartbeats 8000000 in
theorem check42 (t : Int) (A B : Option Addr) (n c m d : Nat) (xs ps : List Q4) (w : World) (hn : n ≤ 9223372036854775807) (hm : m ≤ 9223372036854775807) (hx : RdQ w w.heap.size A xs) (hp : RdQ w w.heap.size B ps) (hl : xs.length = n) (hl' : ps.length = m) (ht0 : -9223372036854775808 ≤ t) :
    Calls Try.prog 28 #[vCloth t A n c B m d] w fun e w' => e = .returned (.int .i64 (ckE t xs ps)) ∧ Below w.heap.size w w' := by
  have HX := Lib.hid hx; clear hx
  have HP := Lib.hid hp; clear hp
  have HL := Lib.hid hl; have HL' := Lib.hid hl'
  have K0 : Has ((w.alloc (.cells #[.int .i64 t, .slice A n c, .slice B m d] 30)).alloc (.cells #[.int .i64 0] 31)) w.heap.size 30 [.int .i64 t, .slice A n c, .slice B m d] := (Has.new rfl).alloc _
  have K1 : Has ((w.alloc (.cells #[.int .i64 t, .slice A n c, .slice B m d] 30)).alloc (.cells #[.int .i64 0] 31)) (w.heap.size + 1) 31 [.int .i64 0] := Has.new2 rfl
  have B0 : Below w.heap.size w ((w.alloc (.cells #[.int .i64 t, .slice A n c, .slice B m d] 30)).alloc (.cells #[.int .i64 0] 31)) := by go_grown
  have HK0 := Lib.hid K0; have HK1 := Lib.hid K1; have HB0 := Lib.hid B0; clear K0 K1 B0
  by_cases h1 : 48 < t
  · have e : ckE t xs ps = 3 := by unfold ckE; rw [if_pos (by omega)]
    rw [e]; clear e
    refine (callsIn_wide (n := 0)).1 (callsIn_of_wp_marks Try.func28 rfl trivial ?_)
    simp only [Try.ntmps28, List.size_toArray, List.length_cons, List.length_nil, Nat.reduceAdd, Nat.reduceSub, Array.replicate_succ, Array.replicate_zero, List.push_toArray, List.append_toArray, List.nil_append, List.cons_append]
    refine wpIn_wide.2 ?_
    go_wp2
    refine postM_ret (Has.new2 rfl) rfl rfl Try.isAgg31 rfl ?_
    exact ⟨rfl, by go_grown⟩
  by_cases h2 : 20000 < (n : Int)
  · have e : ckE t xs ps = 3 := by unfold ckE; rw [if_pos (by omega)]
    rw [e]; clear e
    refine (callsIn_wide (n := 0)).1 (callsIn_of_wp_marks Try.func28 rfl trivial ?_)
    simp only [Try.ntmps28, List.size_toArray, List.length_cons, List.length_nil, Nat.reduceAdd, Nat.reduceSub, Array.replicate_succ, Array.replicate_zero, List.push_toArray, List.append_toArray, List.nil_append, List.cons_append]
    refine wpIn_wide.2 ?_
    go_wp2
    refine postM_ret (Has.new2 rfl) rfl rfl Try.isAgg31 rfl ?_
    exact ⟨rfl, by go_grown⟩
  by_cases h3 : 6400 < (m : Int)
  · have e : ckE t xs ps = 3 := by unfold ckE; rw [if_pos (by omega)]
    rw [e]; clear e
    refine (callsIn_wide (n := 0)).1 (callsIn_of_wp_marks Try.func28 rfl trivial ?_)
    simp only [Try.ntmps28, List.size_toArray, List.length_cons, List.length_nil, Nat.reduceAdd, Nat.reduceSub, Array.replicate_succ, Array.replicate_zero, List.push_toArray, List.append_toArray, List.nil_append, List.cons_append]
    refine wpIn_wide.2 ?_
    go_wp2
    refine postM_ret (Has.new2 rfl) rfl rfl Try.isAgg31 rfl ?_
    exact ⟨rfl, by go_grown⟩
  have HR : Hid (ckE t xs ps = if numsOk t xs ps = false then 2 else if endsOk t xs = false then 6 else 0) := by show ckE t xs ps = _; unfold ckE; rw [if_neg (by omega)]
  generalize ckE t xs ps = r at *
  have d1 : decide (48 < t) = false := decide_eq_false h1
  have d2 : decide ((20000 : Int) < n) = false := decide_eq_false h2
  have d3 : decide ((6400 : Int) < m) = false := decide_eq_false h3
  clear hl hl'
  refine (callsIn_wide (n := 0)).1 (callsIn_of_wp_marks Try.func28 rfl trivial ?_)
  simp only [Try.ntmps28, List.size_toArray, List.length_cons, List.length_nil, Nat.reduceAdd, Nat.reduceSub, Array.replicate_succ, Array.replicate_zero, List.push_toArray, List.append_toArray, List.nil_append, List.cons_append]
  refine wpIn_wide.2 ?_
  go_wp2
  go_loopw [3, 32] (fun g i wr => ∃ k : Nat, k ≤ n ∧ g = .bool (decide (2 ≤ t) && (xs.take k).all (okC t)) ∧ i = .int .i64 (k : Int) ∧ Below w.heap.size w wr ∧ Has wr w.heap.size 30 [.int .i64 t, .slice A n c, .slice B m d] ∧ Has wr (w.heap.size + 1) 31 [.int .i64 0]) (fun _ i _ => n - (intOf i).toNat)
  case atStart => exact ⟨0, Nat.zero_le _, by simp, rfl, HB0.out, HK0.out, HK1.out⟩
  case round =>
    clear HB0 HK0 HK1
    obtain ⟨k, hk, rfl, rfl, hb, hh, hh1⟩ := hrel
    obtain ⟨wo, rfl⟩ : ∃ wo : World, wo = wr := ⟨_, rfl⟩
    have HH := Lib.hid hh
    have a0 : wo.cell? ⟨w.heap.size, 0, none⟩ = some (.int .i64 t) := hh.cell 0
    have a1 : wo.cell? ⟨w.heap.size, 1, none⟩ = some (.slice A n c) := hh.cell 1
    have a2 : wo.cell? ⟨w.heap.size, 2, none⟩ = some (.slice B m d) := hh.cell 2
    have q := hh.lt
    have HE := Lib.hid hh1
    clear hh hh1
    by_cases hlt : k < n
    · obtain ⟨x, hx⟩ := get_of_lt (l := xs) (k := k) (by rw [HL.out]; exact hlt)
      obtain ⟨ba, o, rfl, hba, c0, c1, c2, c3⟩ := (HX.out.below hb hb.size) _ x hx
      have HXk := Lib.hid hx; clear hx
      generalize hG : (decide (2 ≤ t) && (xs.take k).all (okC t)) = gb
      have HG := Lib.hid hG
      cases gb with
      | false =>
        clear hG
        go_wp2
        go_roundw
        case rel => exact ⟨k + 1, by omega, by rw [next_all HG.out HXk.out rfl]; rfl, by go_num, hb.alloc (by omega) _, HH.out.alloc _, HE.out.alloc _⟩
        case measure => first | (simp [intOf]; done) | (simp [intOf]; omega)
      | true =>
        have h2t : 2 ≤ t := by simp only [Bool.and_eq_true, decide_eq_true_eq] at hG; exact hG.1
        clear hG
        have i1 : IntKind.i64.wrap (t - 2) = t - 2 := IntWalk.i64_in _ (by omega)
        have H2t := Lib.hid h2t; clear h2t
        by_cases hin : 0 ≤ x.b ∧ x.b ≤ t - 2
        · have hd : (decide (0 ≤ x.b) && decide (x.b ≤ t - 2)) = true := by simp; exact hin
          go_wp2_with (go_at_call 51; refine (in56 _ _ _ true _ hd).mono ?_; rintro e w1 ⟨rfl, rfl⟩)
          go_roundw
          case rel => exact ⟨k + 1, by omega, by rw [next_all HG.out HXk.out (okC_r (r := decide (0 ≤ x.a)) (by congr 1; simp; omega))]; rfl, by go_num, hb.alloc (by omega) _, HH.out.alloc _, HE.out.alloc _⟩
          case measure => first | (simp [intOf]; done) | (simp [intOf]; omega)
        · have hd : (decide (0 ≤ x.b) && decide (x.b ≤ t - 2)) = false := by simp; omega
          go_wp2_with (go_at_call 51; refine (in56 _ _ _ false _ hd).mono ?_; rintro e w1 ⟨rfl, rfl⟩)
          go_roundw
          case rel => exact ⟨k + 1, by omega, by rw [next_all HG.out HXk.out (okC_r (r := false) (by simp; omega))]; rfl, by go_num, hb.alloc (by omega) _, HH.out.alloc _, HE.out.alloc _⟩
          case measure => first | (simp [intOf]; done) | (simp [intOf]; omega)
    · obtain rfl : k = n := by omega
      have HA' : Hid (xs.take k = xs) := List.take_of_length_le (by rw [HL.out]; exact Nat.le_refl _)
      rw [HA'.out]
      clear HA'
      generalize hG1 : (decide (2 ≤ t) && xs.all (okC t)) = g1
      have HG1 := Lib.hid hG1
      clear hG1
      go_wp2
      go_loopw [3, 54] (fun g i wr => ∃ j : Nat, j ≤ m ∧ g = .bool (g1 && (ps.take j).all (okP t)) ∧ i = .int .i64 (j : Int) ∧ Below w.heap.size w wr ∧ Has wr w.heap.size 30 [.int .i64 t, .slice A k c, .slice B m d] ∧ Has wr (w.heap.size + 1) 31 [.int .i64 0]) (fun _ i _ => m - (intOf i).toNat)
      case atStart => exact ⟨0, Nat.zero_le _, by simp, rfl, hb, HH.out, HE.out⟩
      case round =>
        clear HH HE hb a0 a1 a2 q
        obtain ⟨j, hj, rfl, rfl, hb, hh, hh1⟩ := hrel
        obtain ⟨wo, rfl⟩ : ∃ wo : World, wo = wr := ⟨_, rfl⟩
        have HH := Lib.hid hh
        have a0 : wo.cell? ⟨w.heap.size, 0, none⟩ = some (.int .i64 t) := hh.cell 0
        have a1 : wo.cell? ⟨w.heap.size, 1, none⟩ = some (.slice A k c) := hh.cell 1
        have a2 : wo.cell? ⟨w.heap.size, 2, none⟩ = some (.slice B m d) := hh.cell 2
        have q := hh.lt
        have HE := Lib.hid hh1
        have q1 := hh1.lt
        have e0 : wo.cell? ⟨w.heap.size + 1, 0, none⟩ = some (.int .i64 0) := hh1.cell 0
        have e1 := hh1.free 0
        clear hh hh1
        by_cases hlt : j < m
        · clear e0 e1
          obtain ⟨x, hx⟩ := get_of_lt (l := ps) (k := j) (by rw [HL'.out]; exact hlt)
          obtain ⟨ba, o, rfl, hba, c0, c1, c2, c3⟩ := (HP.out.below hb hb.size) _ x hx
          have HXk := Lib.hid hx; clear hx
          generalize hG : (g1 && (ps.take j).all (okP t)) = gb
          have HG := Lib.hid hG
          cases gb with
          | false =>
            clear hG
            go_wp2
            go_roundw
            case rel => exact ⟨j + 1, by omega, by rw [next_all HG.out HXk.out rfl]; rfl, by go_num, hb.alloc (by omega) _, HH.out.alloc _, HE.out.alloc _⟩
            case measure => first | (simp [intOf]; done) | (simp [intOf]; omega)
          | true =>
            have h2t : 2 ≤ t := by
              have h1 := HG1.out
              simp only [Bool.and_eq_true] at hG
              rw [hG.1] at h1
              simp only [Bool.and_eq_true, decide_eq_true_eq] at h1; exact h1.1
            clear hG
            have i1 : IntKind.i64.wrap (t - 2) = t - 2 := IntWalk.i64_in _ (by omega)
            have i2 : IntKind.i64.wrap (t - 1) = t - 1 := IntWalk.i64_in _ (by omega)
            have H2t := Lib.hid h2t; clear h2t
            by_cases hin : 0 ≤ x.b ∧ x.b ≤ t - 2
            · have hd : (decide (0 ≤ x.b) && decide (x.b ≤ t - 2)) = true := by simp; exact hin
              by_cases hw : 0 ≤ x.a
              · have hdw : decide (0 ≤ x.a) = true := decide_eq_true hw
                by_cases hc : 0 ≤ x.c ∧ x.c ≤ t - 1
                · have hdc : (decide (0 ≤ x.c) && decide (x.c ≤ t - 1)) = true := by simp; exact hc
                  by_cases hdd : 0 ≤ x.d ∧ x.d ≤ t - 1
                  · have hd2 : (decide (0 ≤ x.d) && decide (x.d ≤ t - 1)) = true := by simp; exact hdd
                    go_wp2_with (go_at_call 51; refine (in56 _ _ _ true _ (by assumption)).mono ?_; rintro e w1 ⟨rfl, rfl⟩)
                    go_roundw
                    case rel => exact ⟨j + 1, by omega, by rw [next_all HG.out HXk.out (okP_r (r := (x.c != x.d)) (by rw [Bool.eq_iff_iff]; simp; omega))]; rfl, by go_num, hb.alloc (by omega) _, HH.out.alloc _, HE.out.alloc _⟩
                    case measure => first | (simp [intOf]; done) | (simp [intOf]; omega)
                  · have hd2 : (decide (0 ≤ x.d) && decide (x.d ≤ t - 1)) = false := by simp; omega
                    go_wp2_with (go_at_call 51; first | (refine (in56 _ _ _ true _ (by assumption)).mono ?_; rintro e w1 ⟨rfl, rfl⟩) | (refine (in56 _ _ _ false _ (by assumption)).mono ?_; rintro e w1 ⟨rfl, rfl⟩))
                    go_roundw
                    case rel => exact ⟨j + 1, by omega, by rw [next_all HG.out HXk.out (okP_r (r := false) (by simp; omega))]; rfl, by go_num, hb.alloc (by omega) _, HH.out.alloc _, HE.out.alloc _⟩
                    case measure => first | (simp [intOf]; done) | (simp [intOf]; omega)
                · have hdc : (decide (0 ≤ x.c) && decide (x.c ≤ t - 1)) = false := by simp; omega
                  go_wp2_with (go_at_call 51; first | (refine (in56 _ _ _ true _ (by assumption)).mono ?_; rintro e w1 ⟨rfl, rfl⟩) | (refine (in56 _ _ _ false _ (by assumption)).mono ?_; rintro e w1 ⟨rfl, rfl⟩))
                  go_roundw
                  case rel => exact ⟨j + 1, by omega, by rw [next_all HG.out HXk.out (okP_r (r := false) (by simp; omega))]; rfl, by go_num, hb.alloc (by omega) _, HH.out.alloc _, HE.out.alloc _⟩
                  case measure => first | (simp [intOf]; done) | (simp [intOf]; omega)
              · have hdw : decide (0 ≤ x.a) = false := decide_eq_false hw
                go_wp2_with (go_at_call 51; refine (in56 _ _ _ true _ (by assumption)).mono ?_; rintro e w1 ⟨rfl, rfl⟩)
                go_roundw
                case rel => exact ⟨j + 1, by omega, by rw [next_all HG.out HXk.out (okP_r (r := false) (by simp; omega))]; rfl, by go_num, hb.alloc (by omega) _, HH.out.alloc _, HE.out.alloc _⟩
                case measure => first | (simp [intOf]; done) | (simp [intOf]; omega)
            · have hd : (decide (0 ≤ x.b) && decide (x.b ≤ t - 2)) = false := by simp; omega
              go_wp2_with (go_at_call 51; refine (in56 _ _ _ false _ hd).mono ?_; rintro e w1 ⟨rfl, rfl⟩)
              go_roundw
              case rel => exact ⟨j + 1, by omega, by rw [next_all HG.out HXk.out (okP_r (r := false) (by simp; omega))]; rfl, by go_num, hb.alloc (by omega) _, HH.out.alloc _, HE.out.alloc _⟩
              case measure => first | (simp [intOf]; done) | (simp [intOf]; omega)
        · obtain rfl : j = m := by omega
          have HN : Hid (numsOk t xs ps = (g1 && ps.all (okP t))) := by
            show numsOk t xs ps = _
            unfold numsOk; rw [HG1.out]
          have HA' : Hid (ps.take j = ps) := List.take_of_length_le (by rw [HL'.out]; exact Nat.le_refl _)
          rw [HA'.out]
          clear HA'
          generalize hN : (g1 && ps.all (okP t)) = ok at *
          cases ok with
          | false =>
            have HF : Hid (2 = r) := by
              show 2 = r
              rw [HR.out, if_pos HN.out]
            clear HR HN hN
            go_wp2
            refine postM_ret (HE.out.set 0 (.int .i64 2)) rfl rfl Try.isAgg31 rfl ?_
            exact ⟨ret_int HF.out, hb.setCell (by simp) _⟩
          | true =>
            have HF : Hid (r = if endsOk t xs = false then 6 else 0) := by
              show r = _
              rw [HR.out, if_neg (by rw [HN.out]; simp)]
            have HP3 : Hid (2 ≤ t ∧ ∀ x ∈ xs, okC t x = true) := by
              obtain ⟨p1, p2, p3⟩ := numsOk_parts HN.out
              exact ⟨p1, p2⟩
            clear HR HN hN HP HG1
            go_wp2_with fail
            refine (begun57 _).mono ?_
            rintro e w1 ⟨rfl, hb1⟩
            have hlen : ((lineL 48).map vInt).length = 48 := by simp [lineL_len]
            have hinfo : (Try.prog.info? 74).map (·.size) = some 48 := by kernel_rfl
            have hz := hb.size
            have hz1 := hb1.size
            have B1 := bvia hb hb1
            have q2 : w.heap.size < w1.heap.size := by omega
            have k0 := (hb1.cell (p := ⟨w.heap.size, 0, none⟩) q).trans a0
            have k1 := (hb1.cell (p := ⟨w.heap.size, 1, none⟩) q).trans a1
            have k2 := (hb1.cell (p := ⟨w.heap.size, 2, none⟩) q).trans a2
            have HE1 := Lib.hid (HE.out.below hb1 q1)
            have q3 := HE1.out.lt
            clear HH HE a0 a1 a2 e0 e1 hb hb1
            go_wp2_with (first
              | (refine wpList_store_has rfl 74 (.tmp 8) (.tmp 98) rfl w1.heap.size ((lineL 48).map vInt) rfl rfl 74 _ (Has.new rfl) (by rw [hlen, hinfo]) (by rw [hlen]; rfl) (by simp [lineL]; intros; rfl) ?_
                 intro w2 hG2 hBut
                 have hb2 : Below w1.heap.size w1 w2 := ((Below.refl _ w1).alloc (Nat.le_refl _) _).trans (hBut.below (Nat.le_refl _) (by simp))
                 have b0 := (hb2.cell (p := ⟨w.heap.size, 0, none⟩) q2).trans k0
                 have b1 := (hb2.cell (p := ⟨w.heap.size, 1, none⟩) q2).trans k1
                 have b2 := (hb2.cell (p := ⟨w.heap.size, 2, none⟩) q2).trans k2
                 have HE2 := Lib.hid (HE1.out.below hb2 q3)
                 have HG2 := Lib.hid hG2
                 clear hBut k0 k1 k2 hG2)
              | (go_at_call 52; refine (crossings58 _ _ t A B k c j d _ rfl).mono ?_; rintro e w3 ⟨rfl, hs3, c1, c2, hb3⟩))
            have hs2 : w1.heap.size < w2.heap.size := HG2.out.lt
            have C1 : w3.cell? ⟨w2.heap.size, 1, none⟩ = some (.slice A k c) := c1.cell 1
            have C2 : w3.cell? ⟨w2.heap.size + 1, 0, none⟩ = some (.pointer (some ⟨w1.heap.size, 0, none⟩)) := c2.cell 0
            have HE3 := HE2.out.below hb3 (by omega)
            have HG3 := HG2.out.below hb3 hs2
            have B3 := bvia (bvia B1 hb2) hb3
            clear c1 c2 HE2 HG2 hb2 hb3 b0 b1 b2 HE1 B1
            have hIo : OwnFrom w3.heap.size (fun (pre : List Met) W => (∀ p ∈ pre, metOk p = true) ∧ Has W (w.heap.size + 1) 31 [.int .i64 0] ∧ Below w.heap.size w W) :=
              OwnFrom.and (fun _ _ _ _ hs _ _ => hs) (OwnFrom.and (ownFrom_has (by omega)) (ownFrom_below (Nat.le_refl _) (by omega)))
            have hIxo : OwnFrom w3.heap.size (fun (pre : List Met) W => (∃ ini last, pre = ini ++ [last] ∧ (∀ p ∈ ini, metOk p = true) ∧ metOk last = false) ∧ Has W (w.heap.size + 1) 31 [.int .i64 6] ∧ Below w.heap.size w W) :=
              OwnFrom.and (fun _ _ _ _ hs _ _ => hs) (OwnFrom.and (ownFrom_has (by omega)) (ownFrom_below (Nat.le_refl _) (by omega)))
            refine wpIn_wide.1 (range_law (n := 0) (gf := 67) (lb := #[.pointer (some ⟨w2.heap.size, 0, none⟩), .pointer (some ⟨w2.heap.size + 1, 0, none⟩)]) rfl Try.call67 encM (fun _ => rfl) _ _ (fun ys => ys = came xs (lineL 48) k) (fun ys => ∃ i, i ≤ k ∧ ys = came xs (lineL 48) i) (w.heap.size + 1) hIo hIxo ⟨by simp, HE3, B3⟩ ?iter ?rnd ?done ?stop)
            case iter =>
              intro l dd r0 r1 W hd1 hd2 hKB hMid hY
              have hks := hKB.1
              have hlW := (Array.getElem?_eq_some_iff.1 hMid.rec_).1
              have hxW : RdQ W w.heap.size A xs := HX.out.below hMid.inv.2.2 (Nat.le_refl _)
              have hGW : Has W w1.heap.size 74 ((lineL 48).map vInt) := HG3.same (hKB.2 _ (by omega) (by omega))
              have g1' := (cell_same (a := ⟨w2.heap.size, 1, none⟩) (hKB.2 w2.heap.size (by omega) (by omega))).trans C1
              have g2' := (cell_same (a := ⟨w2.heap.size + 1, 0, none⟩) (hKB.2 (w2.heap.size + 1) (by omega) (by omega))).trans C2
              refine callsIn_wide.2 ((iter64 _ _ l dd (w.heap.size + 1) r0 r1 w2.heap.size (w2.heap.size + 1) w1.heap.size k c j d w.heap.size t A B xs (lineL 48) W ?_ hlW (by omega) (by omega) (by omega) (by omega) (by omega) (by omega) (by omega) g1' g2' (by omega) (by simp [lineL_len]) hxW (by omega) (by omega) (by omega) HL.out ?_ hGW hMid hY (by omega) (by omega) (by omega)).mono ?_)
              · rintro pre V V' ⟨j1, j2, j3⟩ hKC hKO
                refine ⟨j1, j2.same (hKC.same _ j2.lt (by omega)), ?_⟩
                exact ⟨hKC.os.trans j3.os, hKC.tape.trans j3.tape, hKC.output.trans j3.output, Nat.le_trans j3.size hKC.size, fun r hr => (hKC.same r (Nat.lt_of_lt_of_le hr j3.size) (by omega)).trans (j3.block r hr)⟩
              · intro x hx
                have := HP3.out.2 x hx
                unfold okC at this; simp at this; omega
              · rintro e W' ⟨hv, h | ⟨i, hi, h⟩⟩
                · exact ⟨hv, .inl ⟨_, rfl, h⟩⟩
                · exact ⟨hv, .inr ⟨_, ⟨i, hi, rfl⟩, h⟩⟩
            case done =>
              rintro D xs' W hD rfl ⟨j1, j2, j3⟩ hDf
              have e0 := j2.cell 0
              have e1 := j2.free 0
              have HJ2 := Lib.hid j2
              clear j2
              go_wp2
              refine postM_mark (HJ2.out.set 0 (.int .i64 0)) rfl rfl Try.isAgg31 rfl ((Below.heap_setCell W _ _ D (by simp; omega)).trans hDf) ?_
              have hok : endsOk t xs = true := ends_ok HP3.out.1 h1 HP3.out.2 (by rw [HL.out]; exact j1)
              exact ⟨ret_int (by rw [HF.out, hok]; rfl), below_put (j3.setCell (by simp) _) (by omega) _⟩
            case stop =>
              rintro D xs' W hD ⟨i, hi, rfl⟩ ⟨⟨ini, last, j0, j1, j1'⟩, j2, j3⟩ hDf
              refine wpIn_wide.2 ?_
              go_wp2
              refine postM_mark j2 rfl rfl Try.isAgg31 rfl hDf ?_
              have hok : endsOk t xs = false := ends_bad HP3.out.1 h1 HP3.out.2 (by rw [HL.out]; exact hi) j0 j1 j1'
              exact ⟨ret_int (by rw [HF.out, hok]; rfl), below_put j3 (by omega) _⟩
            case rnd =>
              rintro l pre ⟨x, va, vb⟩ W o hl ⟨j1, j2, j3⟩ hWl ho
              have hll := (Array.getElem?_eq_some_iff.1 hWl).1
              have hsz := j3.size
              have hsz2 := j2.lt
              dsimp only [encM]
              gi_wp2
              refine ⟨(KeepsOthers.alloc _ _).trans (KeepsOthers.alloc _ _), ?_⟩
              have X1 : Has ((W.alloc (.cells #[.int .i64 x.a, .int .i64 x.b, .int .i64 x.c, .int .i64 x.d] 70)).alloc (.cells #[.int .i64 va, .int .i64 vb] 54)) W.heap.size 70 [.int .i64 x.a, .int .i64 x.b, .int .i64 x.c, .int .i64 x.d] := (Has.new rfl).alloc _
              have X2 : Has ((W.alloc (.cells #[.int .i64 x.a, .int .i64 x.b, .int .i64 x.c, .int .i64 x.d] 70)).alloc (.cells #[.int .i64 va, .int .i64 vb] 54)) (W.heap.size + 1) 54 [.int .i64 va, .int .i64 vb] := Has.new2 rfl
              have X3 : Below W.heap.size W ((W.alloc (.cells #[.int .i64 x.a, .int .i64 x.b, .int .i64 x.c, .int .i64 x.d] 70)).alloc (.cells #[.int .i64 va, .int .i64 vb] 54)) := by go_grown
              generalize ((W.alloc (.cells #[.int .i64 x.a, .int .i64 x.b, .int .i64 x.c, .int .i64 x.d] 70)).alloc (.cells #[.int .i64 va, .int .i64 vb] 54)) = V at *
              refine ⟨⟨X3.size, fun r hr _ => X3.block r hr⟩, fun o' ho' => ?_⟩
              have X4 := j2.below X3 hsz2
              have X5 := bvia' j3 (Nat.le_refl _) X3
              have hV := X2.lt
              have Y1 := X1.same (w' := V.putObj l o') (World.putObj_heap_other (by omega))
              have Y2 := X2.same (w' := V.putObj l o') (World.putObj_heap_other (by omega))
              have Y4 := X4.same (w' := V.putObj l o') (World.putObj_heap_other (by omega))
              have Y5 := below_put X5 (D := l) (by omega) o'
              clear X1 X2 X3 X4 X5 hWl ho ho' hV
              generalize V.putObj l o' = Y at *
              have y2 : Y.cell? ⟨W.heap.size, 2, none⟩ = some (.int .i64 x.c) := Y1.cell 2
              have y3 : Y.cell? ⟨W.heap.size, 3, none⟩ = some (.int .i64 x.d) := Y1.cell 3
              have z0 : Y.cell? ⟨W.heap.size + 1, 0, none⟩ = some (.int .i64 va) := Y2.cell 0
              have z1 : Y.cell? ⟨W.heap.size + 1, 1, none⟩ = some (.int .i64 vb) := Y2.cell 1
              have e0 : Y.cell? ⟨w.heap.size + 1, 0, none⟩ = some (.int .i64 0) := Y4.cell 0
              have e1 := Y4.free 0
              have HY4 := Lib.hid Y4; clear Y4
              clear Y1 Y2
              cases hA : (va == x.c && vb == x.d) with
              | true =>
                have E1 := eqArr2_is hA
                have hM : metOk (x, va, vb) = true := by show endOk va vb x = true; unfold endOk; rw [hA]; rfl
                have HM := Lib.hid hM; clear hM hA
                gi_wp2
                refine ⟨KeepsOthers.refl _, ⟨Nat.le_refl _, fun _ _ _ => rfl⟩, ?_, HY4.out, Y5⟩
                exact fun p hp => (List.mem_append.1 hp).elim (j1 p) (fun e => by rw [List.mem_singleton.1 e]; exact HM.out)
              | false =>
                have E1 := eqArr2_is hA
                cases hB : (va == x.d && vb == x.c) with
                | true =>
                  have E2 := eqArr2_is hB
                  have hM : metOk (x, va, vb) = true := by show endOk va vb x = true; unfold endOk; rw [hA, Bool.and_comm, hB]; rfl
                  have HM := Lib.hid hM; clear hM hA hB
                  gi_wp2
                  refine ⟨KeepsOthers.refl _, ⟨Nat.le_refl _, fun _ _ _ => rfl⟩, ?_, HY4.out, Y5⟩
                  exact fun p hp => (List.mem_append.1 hp).elim (j1 p) (fun e => by rw [List.mem_singleton.1 e]; exact HM.out)
                | false =>
                  have E2 := eqArr2_is hB
                  have hM : metOk (x, va, vb) = false := by show endOk va vb x = false; unfold endOk; rw [hA, Bool.and_comm, hB]; rfl
                  have HM := Lib.hid hM; clear hM hA hB
                  gi_wp2
                  exact ⟨KeepsOthers.setCell _ _ _, ⟨by simp [World.setCell], fun r _ _ hb' => Below.heap_setCell Y _ _ r hb'⟩, ⟨pre, _, rfl, j1, HM.out⟩, HY4.out.set 0 (.int .i64 6), Y5.setCell (by simp) _⟩
end Go.Proofs.Ytpljaoagiaijiaa
