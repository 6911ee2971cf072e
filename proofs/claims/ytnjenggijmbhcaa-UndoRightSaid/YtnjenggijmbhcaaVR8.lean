/-
  Contract of torchonref28.Net: the net of a sheet, or an error.
-/
import Derived.Test.YtnjenggijmbhcaaVK10
import Derived.Test.YtnjenggijmbhcaaVK4
import Derived.Test.YtnjenggijmbhcaaVK5
namespace Go.Proofs.Ytnjenggijmbhcaa
open Go.RowKit
attribute [local go_sem 10000] eql_wk
set_option maxRecDepth 100000 in
set_option maxHeartbeats 2000000 in
theorem Net28 (p : Int) (A : Option Addr) (n c : Nat) (ws : List Wk) (w : World) (hn : n ≤ 9223372036854775807) (hnc : n ≤ c) (hw : RdW w w.heap.size A ws) (hl : ws.length = n)
    (hs : ∀ x ∈ ws, x.word.size ≤ 9223372036854775807) (h0 : schk p ws = 0) :
    Calls Try.prog 16 #[.agg #[.int .i64 p, .slice A n c]] w (RetSE p (netL ws) 0 w) := by
  have HW := Lib.hid hw; clear hw
  have HL := Lib.hid hl; clear hl
  have HS := Lib.hid hs; clear hs
  have H0 := Lib.hid h0
  have ok := schk_zero h0
  have hn4 : n ≤ 400 := by have := ok.len; rw [HL.out] at this; exact this
  have HR := Lib.hid (show ∀ x ∈ ws, 0 ≤ x.at_ ∧ x.at_ ≤ 22 from fun x hx => by
    obtain ⟨_, h1, h2, _⟩ := bad_at (ok.good x hx)
    have := ok.le
    omega)
  clear h0 ok
  go_enter Try.func16, Try.ntmps16
  go_wp2_with fail
  refine (check04 _ _ _ _ _ _ hn (HW.out.up (by go_grown)) HL.out HS.out).mono ?_
  rintro e w1 ⟨rfl, hb1⟩
  rw [H0.out]
  have hb0 : Below w.heap.size w w1 := bvia (by go_grown) hb1
  have hz1 : w.heap.size + 1 < w1.heap.size := by have := hb1.size; simp at this; omega
  go_wp2
  go_loopw [5, 6] (fun v i wr => ∃ (k : Nat), k ≤ n ∧ i = .int .i64 (k : Int) ∧ wr.ownsRow (w.heap.size + 2) 26 3 v (netTo ws k).length (wksCells (netTo ws k)) ∧
      (∃ A' c', v = .slice A' (netTo ws k).length c') ∧
      Below (w.heap.size + 2) w1 wr)
    (fun _ i _ => n - (intOf i).toNat)
  case atStart => exact ⟨0, Nat.zero_le _, rfl, World.ownsRow_nil _ _ _ _, ⟨none, 0, rfl⟩, Below.refl _ _⟩
  case round =>
    obtain ⟨k, hk, rfl, hown, ⟨A', c', rfl⟩, hbw⟩ := hrel
    obtain ⟨wo, rfl⟩ : ∃ wo : World, wo = wr := ⟨_, rfl⟩
    have hW : Below w.heap.size w wo := hb0.trans (hbw.mono (by omega))
    have d0 : wo.cell? ⟨w.heap.size, 0, none⟩ = some (.int .i64 p) := by rw [hbw.cell (by simp), hb1.cell (by simp; omega)]; go_simp
    have d1 : wo.cell? ⟨w.heap.size, 1, none⟩ = some (.slice A n c) := by rw [hbw.cell (by simp), hb1.cell (by simp; omega)]; go_simp
    have hz : w.heap.size + 1 < wo.heap.size := by have := hbw.size; omega
    have hz0 : w.heap.size < wo.heap.size := by omega
    have HO := Lib.hid hown; clear hown
    have HB := Lib.hid hbw; clear hbw
    have hlen := netTo_len ws k
    have HM : Hid (∀ x ∈ netTo ws k, x ∈ ws) := fun x hx => netTo_mem hx
    by_cases hlt : k < n
    · obtain ⟨x, hx⟩ := get_of_lt (l := ws) (k := k) (by rw [HL.out]; exact hlt)
      have HN := Lib.hid (netTo_succ hx)
      generalize hLL : netTo ws k = L at *
      have HLL := Lib.hid hLL; clear hLL
      obtain ⟨ba, o, rfl, hb, c1, c2, c3⟩ := (HW.out.below hW (Nat.le_of_lt hz0)) _ x hx
      obtain ⟨hx0, hx1⟩ := HR.out x (mem_of_get hx)
      have hsx := HS.out x (mem_of_get hx)
      have HX := Lib.hid hx; clear hx
      go_wp2
      go_loopw [7, 8] (fun r q wr => ∃ (m : Nat) (t : Int), m ≤ L.length ∧ q = .int .i64 ((m : Int) - 1) ∧ r = .int .i64 t ∧ (t = -1 ∧ Hid (lastPos L x.at_ L.length = lastPos L x.at_ m) ∨ 0 ≤ t ∧ t < L.length ∧ Hid (lastPos L x.at_ L.length = t)) ∧ Below wo.heap.size wo wr)
        (fun _ q _ => (intOf q + 1).toNat)
      case atStart => exact ⟨L.length, -1, Nat.le_refl _, rfl, rfl, .inl ⟨rfl, rfl⟩, Below.refl _ _⟩
      case round =>
        obtain ⟨m, t, hm, rfl, rfl, hlast, hb2⟩ := hrel
        by_cases hgo : 0 < m ∧ t = -1
        · obtain ⟨hm0, rfl⟩ := hgo
          have hT : Hid (lastPos L x.at_ L.length = lastPos L x.at_ m) := by
            rcases hlast with ⟨_, h⟩ | ⟨h, _⟩
            · exact h
            · omega
          clear hlast
          obtain ⟨m, rfl⟩ : ∃ m', m = m' + 1 := ⟨m - 1, by omega⟩
          obtain ⟨y, hy⟩ := get_of_lt (l := L) (k := m) (by omega)
          have hyw := HM.out y (mem_of_get hy)
          obtain ⟨hy0, hy1⟩ := HR.out y hyw
          obtain ⟨g, og, rfl, hg, e1, e2, e3⟩ := own_rdW HO.out m y hy
          have HY := Lib.hid hy; clear hy hyw
          obtain ⟨hc, hf⟩ := bcell hb2
          have k0 : wr.cell? ⟨w.heap.size, 1, none⟩ = some (.slice (some ⟨ba, o, none⟩) n c) := by rw [hc _ _ hz0]; exact d1
          have k1 : wr.cell? ⟨ba, o + k * 3, none⟩ = some (.int .i64 x.kind) := by rw [hc _ _ hb]; exact c1
          have k2 : wr.cell? ⟨ba, o + k * 3 + 1, none⟩ = some (.int .i64 x.at_) := by rw [hc _ _ hb]; exact c2
          have k3 : wr.cell? ⟨ba, o + k * 3 + 2, none⟩ = some (.string x.word) := by rw [hc _ _ hb]; exact c3
          have k4 : wr.cell? ⟨g, og + m * 3, none⟩ = some (.int .i64 y.kind) := by rw [hc _ _ hg]; exact e1
          have k5 : wr.cell? ⟨g, og + m * 3 + 1, none⟩ = some (.int .i64 y.at_) := by rw [hc _ _ hg]; exact e2
          have k6 : wr.cell? ⟨g, og + m * 3 + 2, none⟩ = some (.string y.word) := by rw [hc _ _ hg]; exact e3
          have q1 : w.heap.size < wr.heap.size := by have := hb2.size; omega
          have q2 : ba < wr.heap.size := by have := hb2.size; omega
          have q3 : g < wr.heap.size := by have := hb2.size; omega
          clear hc hf
          have HTo : Hid (lastPos L x.at_ (m + 1) = if touch y.at_ x.at_ then (m : Int) else lastPos L x.at_ m) := by
            show lastPos L x.at_ (m + 1) = _
            rw [lastPos, wat_get HY.out]
          cases htt : touch y.at_ x.at_ with
          | true =>
            have HTt := Lib.hid htt; clear htt
            go_wp2
            have hxc := fun (x : Ext wr) => x.cell
            refine wp_region_ext (by kernel_rfl) (by kernel_rfl) ?_
            repeat (go_big_quiet_step ((go_at_call 20; exact ext_call (touch04 _ _ _ _ _ _ _ (by omega) (by omega) (by omega) (by omega)))))
            refine wpQuiet_nil ?_
            intro _ hw'
            obtain ⟨⟨w2, hb2'⟩, rfl⟩ := hw'
            clear hxc
            rw [HTt.out]
            go_wp2
            go_roundw
            case rel => exact ⟨m, (m : Int), by omega, by go_num, by go_num, .inr ⟨by omega, by omega, by show lastPos L x.at_ L.length = _; rw [hT.out, HTo.out, HTt.out]; simp⟩, bvia hb2 hb2'⟩
            case measure => first | (simp [intOf]; done) | (simp [intOf]; omega)
          | false =>
            have HTt := Lib.hid htt; clear htt
            go_wp2
            have hxc := fun (x : Ext wr) => x.cell
            refine wp_region_ext (by kernel_rfl) (by kernel_rfl) ?_
            repeat (go_big_quiet_step ((go_at_call 20; exact ext_call (touch04 _ _ _ _ _ _ _ (by omega) (by omega) (by omega) (by omega)))))
            refine wpQuiet_nil ?_
            intro _ hw'
            obtain ⟨⟨w2, hb2'⟩, rfl⟩ := hw'
            clear hxc
            rw [HTt.out]
            go_wp2
            go_roundw
            case rel => exact ⟨m, -1, by omega, by go_num, rfl, .inl ⟨rfl, by show lastPos L x.at_ L.length = _; rw [hT.out, HTo.out, HTt.out]; simp⟩, bvia hb2 hb2'⟩
            case measure => first | (simp [intOf]; done) | (simp [intOf]; omega)
        · have hLP : Hid (lastPos L x.at_ L.length = t) := by
            rcases hlast with ⟨h1, h⟩ | ⟨h1, _, h⟩
            · subst h1
              have : m = 0 := by omega
              subst this
              exact h
            · exact h
          have ht : t = -1 ∨ 0 ≤ t ∧ t < L.length := by
            rcases hlast with ⟨h1, h⟩ | ⟨h1, h2, h⟩
            · exact .inl h1
            · exact .inr ⟨h1, h2⟩
          clear hlast
          rcases ht with rfl | ⟨ht0, ht1⟩
          · have HA : Hid (netStep L x = L ++ [x]) := by
              show netStep L x = L ++ [x]
              unfold netStep; rw [hLP.out, if_neg (by omega)]
            have hm0 : m = 0 := by omega
            subst hm0
            obtain ⟨hc, hf⟩ := bcell hb2
            have k0 : wr.cell? ⟨w.heap.size, 1, none⟩ = some (.slice (some ⟨ba, o, none⟩) n c) := by rw [hc _ _ hz0]; exact d1
            have k1 : wr.cell? ⟨ba, o + k * 3, none⟩ = some (.int .i64 x.kind) := by rw [hc _ _ hb]; exact c1
            have k2 : wr.cell? ⟨ba, o + k * 3 + 1, none⟩ = some (.int .i64 x.at_) := by rw [hc _ _ hb]; exact c2
            have k3 : wr.cell? ⟨ba, o + k * 3 + 2, none⟩ = some (.string x.word) := by rw [hc _ _ hb]; exact c3
            have q1 : w.heap.size < wr.heap.size := by have := hb2.size; omega
            have q2 : ba < wr.heap.size := by have := hb2.size; omega
            clear hc hf
            go_wp2
            have hxc := fun (x : Ext wr) => x.cell
            refine wp_region_ext (by kernel_rfl) (by kernel_rfl) ?_
            repeat (go_big_quiet_step (fail))
            refine wpQuiet_nil ?_
            intro w3 hw'
            have hb3 := bvia hb2 (ext_below hw')
            clear hw'
            clear hxc k0 k1 k2 k3 q1 q2 
            obtain ⟨hc, hf⟩ := bcell hb3
            have k0 : w3.cell? ⟨w.heap.size, 1, none⟩ = some (.slice (some ⟨ba, o, none⟩) n c) := by rw [hc _ _ hz0]; exact d1
            have k1 : w3.cell? ⟨ba, o + k * 3, none⟩ = some (.int .i64 x.kind) := by rw [hc _ _ hb]; exact c1
            have k2 : w3.cell? ⟨ba, o + k * 3 + 1, none⟩ = some (.int .i64 x.at_) := by rw [hc _ _ hb]; exact c2
            have k3 : w3.cell? ⟨ba, o + k * 3 + 2, none⟩ = some (.string x.word) := by rw [hc _ _ hb]; exact c3
            have q1 : w.heap.size < w3.heap.size := by have := hb3.size; omega
            have q2 : ba < w3.heap.size := by have := hb3.size; omega
            clear hc hf
            have hob := own_below HO.out hb3
            have HOB := Lib.hid hob; clear hob
            have HU : Hid (netTo ws (k + 1) = L ++ [x]) := by
              show netTo ws (k + 1) = L ++ [x]
              rw [HN.out]; exact HA.out
            have hA2 := hb3.size
            go_wp2_with (at_builtin; refine wpList_app rfl (.tmp 69) (.tmp 75) _ rfl (w.heap.size + 2) 26 (.agg #[.int .i64 0, .int .i64 0, .string ⟨#[]⟩]) 3 32 Try.underlying22 infoWk rfl (by omega) (by omega) (.slice A' L.length c') _ _ rfl (HOB.out.alloc _) w3.heap.size (wkCells x) rfl rfl (news_wk _ _ _) (one_wk _) (by omega) (by simp; omega) ?_; intro g1 cap1 w2 hg1 hown1 hgrow1 hor1)
            go_roundw
            case rel =>
              refine ⟨k + 1, by omega, by go_num, ?_, ⟨some ⟨g1, 0, none⟩, cap1, by rw [HU.out]; simp⟩, ?_⟩
              · rw [HU.out, wksCells_app]; simpa using hown1
              · exact ((bvia' HB.out (by omega) hb3).alloc (by omega) _).grown hgrow1 (by simp; omega) (fun k hk => (HOB.out.lt k hk).1)
            case measure => first | (simp [intOf]; done) | (simp [intOf]; omega)
          · obtain ⟨t, rfl⟩ := Int.eq_ofNat_of_zero_le ht0
            obtain ⟨y, hy⟩ := get_of_lt (l := L) (k := t) (by omega)
            obtain ⟨g, rfl, hgb, hg, e1, e2, e3⟩ := own_wk HO.out hy
            have HY := Lib.hid hy; clear hy
            have e0 : ∀ W : World, (binOp .eql 26 (.agg #[.int .i64 y.kind, .int .i64 y.at_, .string y.word]) (.agg #[.int .i64 x.kind, .int .i64 x.at_, .string (invW x.word)])).run Try.prog W = .ok (.bool (y == undoW x)) W := fun W => eql_wk y (undoW x) W
            have eg := wkGuard
            obtain ⟨hc, hf⟩ := bcell hb2
            have k0 : wr.cell? ⟨w.heap.size, 1, none⟩ = some (.slice (some ⟨ba, o, none⟩) n c) := by rw [hc _ _ hz0]; exact d1
            have k1 : wr.cell? ⟨ba, o + k * 3, none⟩ = some (.int .i64 x.kind) := by rw [hc _ _ hb]; exact c1
            have k2 : wr.cell? ⟨ba, o + k * 3 + 1, none⟩ = some (.int .i64 x.at_) := by rw [hc _ _ hb]; exact c2
            have k3 : wr.cell? ⟨ba, o + k * 3 + 2, none⟩ = some (.string x.word) := by rw [hc _ _ hb]; exact c3
            have q1 : w.heap.size < wr.heap.size := by have := hb2.size; omega
            have q2 : ba < wr.heap.size := by have := hb2.size; omega
            have k4 : wr.cell? ⟨g, t * 3, none⟩ = some (.int .i64 y.kind) := by rw [hc _ _ hg]; exact e1
            have k5 : wr.cell? ⟨g, t * 3 + 1, none⟩ = some (.int .i64 y.at_) := by rw [hc _ _ hg]; exact e2
            have k6 : wr.cell? ⟨g, t * 3 + 2, none⟩ = some (.string y.word) := by rw [hc _ _ hg]; exact e3
            have q3 : g < wr.heap.size := by have := hb2.size; omega
            clear hc hf
            by_cases hyx : y = undoW x
            · have hxy : (y == undoW x) = true := by simpa using hyx
              have HXY := Lib.hid hxy; clear hxy
              have HYX := Lib.hid hyx; clear hyx
              go_wp2
              all_goals
                have hxc := fun (x : Ext wr) => x.cell
                refine wp_region_ext (by kernel_rfl) (by kernel_rfl) ?_
                repeat (go_big_quiet_step ((go_at_call 21; exact ext_call (undoing28 _ _ _ _ hsx))))
                refine wpQuiet_nil ?_
                intro w3 hw'
                have hb3 := bvia hb2 (ext_below hw')
                clear hw'
                clear hxc k0 k1 k2 k3 q1 q2 k4 k5 k6 q3
                rw [HXY.out]
                have hob := own_below HO.out hb3
                have HOB := Lib.hid hob; clear hob
                have hw3 := hb3.size
                have hcc := own_caps HO.out
                have hgw : g < w3.heap.size := by omega
                have HU : Hid (netTo ws (k + 1) = L.take t ++ L.drop (t + 1)) := by
                  show netTo ws (k + 1) = L.take t ++ L.drop (t + 1)
                  rw [HN.out, netStep, hLP.out, if_pos ⟨by omega, by rw [Int.toNat_natCast, HY.out, HYX.out]⟩, Int.toNat_natCast, List.eraseIdx_eq_take_drop_succ]
                have i1 : (0 : Int) ≤ (t : Int) := by omega
                have i2 : (t : Int) ≤ (c' : Int) := by omega
                have i3 : IntKind.i64.wrap ((t : Int) + 1) = (t : Int) + 1 := IntWalk.i64_in _ (by omega)
                have i4 : (0 : Int) ≤ (t : Int) + 1 := by omega
                have i5 : (t : Int) + 1 ≤ (L.length : Int) := by omega
                have i6 : (L.length : Int) ≤ (c' : Int) := by omega
                have i7 : ((t : Int) + 1).toNat = t + 1 := by omega
                by_cases hcap : c' = t + 1
                · subst hcap
                  have hL1 : L.length ≤ t + 1 := by omega
                  have i8 : (t : Int) ≤ (t : Int) + 1 := by omega
                  have i9 : (L.length : Int) ≤ (t : Int) + 1 := by omega
                  go_wp2
                  go_region_held3 (fun _ => True) (trivial) (first | (refine step_appN rfl (.tmp 59) (.tmp 62) _ rfl (w.heap.size + 2) 26 (.agg #[.int .i64 0, .int .i64 0, .string ⟨#[]⟩]) 3 32 Try.underlying22 infoWk rfl (by omega) (by omega) (.slice (some ⟨w3.heap.size, 0, none⟩) 0 0) 0 [] rfl (own_lit0 (by omega)) ⟨g, 0, none⟩ t (t + 1) (wksCells (L.take t)) rfl (by rw [wksCells_len]; simp; omega) (by rw [← wksCells_take _ _ (by omega)]; exact own_upto (HOB.out.alloc _).drew _) (one_wks _) (by omega) (by simp; omega) ?_; intro v4 w4 hown4 hgrow4 hnil4 hor4; have hkeep := (HOB.out.alloc (.cells #[] 26)).drew.kept hgrow4 (.inr (by simp [Value.ownBlock]; omega)); have hz4 := hgrow4.size; simp at hz4) | (refine step_appN rfl (.tmp 63) (.tmp 67) _ rfl (w.heap.size + 2) 26 (.agg #[.int .i64 0, .int .i64 0, .string ⟨#[]⟩]) 3 32 Try.underlying22 infoWk rfl (by omega) (by omega) v4 (0 + t) _ rfl hown4 _ 0 _ [] rfl (by simp) (by simp) (by simp) (by omega) (by omega) ?_; intro v5 w5 hown5 hgrow5 hnil5 hor5))
                  go_wp2
                  go_roundw
                  case rel =>
                    have hl5 : 0 + t + 0 = (L.take t ++ L.drop (t + 1)).length := by simp; omega
                    obtain ⟨A5, c5, rfl⟩ := own_form hown5
                    refine ⟨k + 1, by omega, by go_num, ?_, ⟨A5, c5, by rw [HU.out, ← hl5]⟩, ?_⟩
                    · rw [HU.out, ← hl5]
                      have : wksCells (L.take t ++ L.drop (t + 1)) = [] ++ wksCells (L.take t) ++ [] := by
                        rw [List.drop_of_length_le (by omega : L.length ≤ t + 1)]; simp
                      rw [this]; exact hown5
                    · exact ((((bvia' HB.out (by omega) hb3).alloc (by omega) (.cells #[] 26)).drew).grown hgrow4 (by simp; omega) (fun k hk => by simp [Value.ownBlock] at hk; omega)).grown hgrow5 (by omega) (fun k hk => by have := (hown4.lt k hk).1; omega)
                  case measure => first | (simp [intOf]; done) | (simp [intOf]; omega)
                · have hcap' : decide (c' = t + 1) = false := by simpa using hcap
                  have hcg : t + 1 < c' := by omega
                  go_wp2
                  go_region_held3 (fun _ => True) (trivial) (first | (refine step_appN rfl (.tmp 59) (.tmp 62) _ rfl (w.heap.size + 2) 26 (.agg #[.int .i64 0, .int .i64 0, .string ⟨#[]⟩]) 3 32 Try.underlying22 infoWk rfl (by omega) (by omega) (.slice (some ⟨w3.heap.size, 0, none⟩) 0 0) 0 [] rfl (own_lit0 (by omega)) ⟨g, 0, none⟩ t c' (wksCells (L.take t)) rfl (by rw [wksCells_len]; simp; omega) (by rw [← wksCells_take _ _ (by omega)]; exact own_upto (HOB.out.alloc _).drew _) (one_wks _) (by omega) (by simp; omega) ?_; intro v4 w4 hown4 hgrow4 hnil4 hor4; have hkeep := (HOB.out.alloc (.cells #[] 26)).drew.kept hgrow4 (.inr (by simp [Value.ownBlock]; omega)); have hz4 := hgrow4.size; simp at hz4) | (refine step_appN rfl (.tmp 63) (.tmp 67) _ rfl (w.heap.size + 2) 26 (.agg #[.int .i64 0, .int .i64 0, .string ⟨#[]⟩]) 3 32 Try.underlying22 infoWk rfl (by omega) (by omega) v4 (0 + t) _ rfl hown4 ⟨g, (t + 1) * 3, none⟩ (L.length - (t + 1)) (c' - (t + 1)) (wksCells (L.drop (t + 1))) rfl (by rw [wksCells_len, List.length_drop]) (by rw [← wksCells_drop _ _ (by omega)]; exact own_from hkeep _) (one_wks _) (by omega) (by omega) ?_; intro v5 w5 hown5 hgrow5 hnil5 hor5))
                  go_wp2
                  go_roundw
                  case rel =>
                    have hl5 : 0 + t + (L.length - (t + 1)) = (L.take t ++ L.drop (t + 1)).length := by simp; omega
                    obtain ⟨A5, c5, rfl⟩ := own_form hown5
                    refine ⟨k + 1, by omega, by go_num, ?_, ⟨A5, c5, by rw [HU.out, ← hl5]⟩, ?_⟩
                    · rw [HU.out, ← hl5]
                      have : wksCells (L.take t ++ L.drop (t + 1)) = [] ++ wksCells (L.take t) ++ wksCells (L.drop (t + 1)) := by
                        simp [wksCells]
                      rw [this]; exact hown5
                    · exact ((((bvia' HB.out (by omega) hb3).alloc (by omega) (.cells #[] 26)).drew).grown hgrow4 (by simp; omega) (fun k hk => by simp [Value.ownBlock] at hk; omega)).grown hgrow5 (by omega) (fun k hk => by have := (hown4.lt k hk).1; omega)
                  case measure => first | (simp [intOf]; done) | (simp [intOf]; omega)
            · have hxy : (y == undoW x) = false := by simpa using hyx
              have HXY := Lib.hid hxy; clear hxy
              have HA : Hid (netStep L x = L ++ [x]) := by
                show netStep L x = L ++ [x]
                unfold netStep; rw [hLP.out, if_neg]
                rintro ⟨_, h⟩
                rw [Int.toNat_natCast, HY.out] at h
                exact hyx (Option.some.inj h)
              clear hyx
              go_wp2
              all_goals
                have hxc := fun (x : Ext wr) => x.cell
                refine wp_region_ext (by kernel_rfl) (by kernel_rfl) ?_
                repeat (go_big_quiet_step ((go_at_call 21; exact ext_call (undoing28 _ _ _ _ hsx))))
                refine wpQuiet_nil ?_
                intro w3 hw'
                have hb3 := bvia hb2 (ext_below hw')
                clear hw'
                clear hxc k0 k1 k2 k3 q1 q2 k4 k5 k6 q3
                rw [HXY.out]
                obtain ⟨hc, hf⟩ := bcell hb3
                have k0 : w3.cell? ⟨w.heap.size, 1, none⟩ = some (.slice (some ⟨ba, o, none⟩) n c) := by rw [hc _ _ hz0]; exact d1
                have k1 : w3.cell? ⟨ba, o + k * 3, none⟩ = some (.int .i64 x.kind) := by rw [hc _ _ hb]; exact c1
                have k2 : w3.cell? ⟨ba, o + k * 3 + 1, none⟩ = some (.int .i64 x.at_) := by rw [hc _ _ hb]; exact c2
                have k3 : w3.cell? ⟨ba, o + k * 3 + 2, none⟩ = some (.string x.word) := by rw [hc _ _ hb]; exact c3
                have q1 : w.heap.size < w3.heap.size := by have := hb3.size; omega
                have q2 : ba < w3.heap.size := by have := hb3.size; omega
                clear hc hf
                have hob := own_below HO.out hb3
                have HOB := Lib.hid hob; clear hob
                have HU : Hid (netTo ws (k + 1) = L ++ [x]) := by
                  show netTo ws (k + 1) = L ++ [x]
                  rw [HN.out]; exact HA.out
                have hA2 := hb3.size
                go_wp2_with (at_builtin; refine wpList_app rfl (.tmp 69) (.tmp 75) _ rfl (w.heap.size + 2) 26 (.agg #[.int .i64 0, .int .i64 0, .string ⟨#[]⟩]) 3 32 Try.underlying22 infoWk rfl (by omega) (by omega) (.slice (some ⟨g, 0, none⟩) L.length c') _ _ rfl (HOB.out.alloc _) w3.heap.size (wkCells x) rfl rfl (news_wk _ _ _) (one_wk _) (by omega) (by simp; omega) ?_; intro g1 cap1 w2 hg1 hown1 hgrow1 hor1)
                go_roundw
                case rel =>
                  refine ⟨k + 1, by omega, by go_num, ?_, ⟨some ⟨g1, 0, none⟩, cap1, by rw [HU.out]; simp⟩, ?_⟩
                  · rw [HU.out, wksCells_app]; simpa using hown1
                  · exact ((bvia' HB.out (by omega) hb3).alloc (by omega) _).grown hgrow1 (by simp; omega) (fun k hk => (HOB.out.lt k hk).1)
                case measure => first | (simp [intOf]; done) | (simp [intOf]; omega)
    · obtain rfl : k = n := by omega
      have h1 : Has w1 (w.heap.size + 1) 24 [.int .i64 0, .slice none 0 0] := by
        have := Has.new (w := w.alloc (.cells #[.int .i64 p, .slice A k c] 24)) (arr := #[.int .i64 0, .slice none 0 0]) (t := 24) (cs := [.int .i64 0, .slice none 0 0]) rfl
        simp only [World.size_alloc] at this
        exact this.below hb1 (by simp)
      have h2 := h1.below HB.out (by omega)
      have m0 : wo.cell? ⟨w.heap.size + 1, 0, none⟩ = some (.int .i64 0) := h2.cell 0
      have m1 : wo.cell? ⟨w.heap.size + 1, 1, none⟩ = some (.slice none 0 0) := h2.cell 1
      have f0 := h2.free 0
      have f1 := h2.free 1
      have H2 := Lib.hid h2; clear h1 h2
      go_wp2
      refine post_cell_tmp ((H2.out.set 0 _).set 1 _) Try.results16 rfl rfl rfl Try.underlying24 (by kernel_rfl) ?_
      have hcc := own_caps HO.out
      have hown := ownsRow_setCell_below (ownsRow_setCell_below HO.out (a := ⟨w.heap.size + 1, 0, none⟩) (by simp) (.int .i64 p)) (a := ⟨w.heap.size + 1, 1, none⟩) (by simp) (.slice A' (netTo ws k).length c')
      refine ⟨A', _, c', rfl, ?_, ?_, hcc.1, hcc.2, (hW.setCell (by simp) _).setCell (by simp) _⟩
      · have : netL ws = netTo ws k := by unfold netL; rw [HL.out]
        rw [this]; exact own_rdW hown
      · unfold netL; rw [HL.out]
end Go.Proofs.Ytnjenggijmbhcaa
