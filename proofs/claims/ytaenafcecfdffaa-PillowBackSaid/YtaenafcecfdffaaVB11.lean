/-
  Contract of chapter 16: torchonref15.Steps.
-/
import Derived.Test.YtaenafcecfdffaaVB2
import Derived.Test.YtaenafcecfdffaaVB4
import Derived.Test.YtaenafcecfdffaaVB7
import Derived.Test.YtaenafcecfdffaaVB10
import Derived.RangeFuncCalls
import Derived.OrdersIn
import Derived.Deep.RegionHeld3
namespace Go.Proofs.Ytaenafcecfdffaa
open Go.RowKit
def bestN (s : Int) (l : List Wk) : Nat → Nat
  | 0 => 0
  | h + 1 => if runL (bestN s l h : Nat) s l < runL (h : Nat) s l then h else bestN s l h
theorem bestN_le (s : Int) (l : List Wk) : ∀ h, bestN s l h ≤ h
  | 0 => Nat.le_refl _
  | h + 1 => by
    have := bestN_le s l h
    unfold bestN
    split <;> omega
theorem bestN_lt (s : Int) (l : List Wk) : ∀ h, bestN s l (h + 1) ≤ h
  | 0 => by
    unfold bestN
    split
    · exact Nat.le_refl _
    · exact Nat.le_refl _
  | h + 1 => by
    have := bestN_lt s l h
    show (if runL (bestN s l (h + 1) : Nat) s l < runL ((h + 1 : Nat) : Int) s l then h + 1 else bestN s l (h + 1)) ≤ h + 1
    split <;> omega
def stAll (p s : Int) : Int → List Wk → List Wk
  | _, [] => []
  | h, x :: l => if heldB h s x.at_ then stepOf x :: stAll p s h l else ⟨1, (bestN s (x :: l) (p - s + 1).toNat : Nat), ⟨#[]⟩⟩ :: stepOf x :: stAll p s (bestN s (x :: l) (p - s + 1).toNat : Nat) l
theorem stAll_held {p s h : Int} {x : Wk} {l : List Wk} (hh : heldB h s x.at_ = true) : stAll p s h (x :: l) = stepOf x :: stAll p s h l := if_pos hh
theorem stAll_reach {p s h : Int} {x : Wk} {l : List Wk} (hh : heldB h s x.at_ = false) : stAll p s h (x :: l) = ⟨1, (bestN s (x :: l) (p - s + 1).toNat : Nat), ⟨#[]⟩⟩ :: stepOf x :: stAll p s (bestN s (x :: l) (p - s + 1).toNat : Nat) l := if_neg (by rw [hh]; decide)
/-- an ending: a row of steps of the call's own -/
def RetSt (os : List Wk) (w : World) (e : Ending) (w' : World) : Prop := ∃ A n c, e = .returned (.slice A n c) ∧ w'.ownsRow w.heap.size 35 3 (.slice A n c) n (wksCells os) ∧ os.length = n ∧ Below w.heap.size w w'
set_option maxRecDepth 100000 in
set_option maxHeartbeats 8000000 in
theorem steps15 (p s : Int) (A : Option Addr) (n c : Nat) (ws : List Wk) (w : World) (hw : RdW w w.heap.size A ws) (hl : ws.length = n) (hn : n ≤ 400) (hp : 2 ≤ p ∧ p ≤ 24) (hs : 2 ≤ s ∧ s ≤ 8 ∧ s ≤ p) (ha : ∀ x ∈ ws, 0 ≤ x.at_ ∧ x.at_ ≤ 22) :
    Calls Try.prog 31 #[.agg #[.int .i64 p, .slice A n c], .int .i64 s] w (RetSt (stAll p s (-1) ws) w) := by
  have HW := Lib.hid hw; clear hw
  have HL := Lib.hid hl; clear hl
  have HA := Lib.hid ha; clear ha
  have K0 : Has (w.alloc (.cells #[.int .i64 p, .slice A n c] 24)) w.heap.size 24 [.int .i64 p, .slice A n c] := Has.new rfl
  have HK := Lib.hid (fun (W' : World) (hb : Below (w.heap.size + 1) (w.alloc (.cells #[.int .i64 p, .slice A n c] 24)) W') => (K0.below hb (Nat.lt_succ_self _) : Has W' w.heap.size 24 [.int .i64 p, .slice A n c]))
  have HWK := Lib.hid (fun (W' : World) (hb : Below (w.heap.size + 1) (w.alloc (.cells #[.int .i64 p, .slice A n c] 24)) W') => (bvia (show Below w.heap.size w (w.alloc (.cells #[.int .i64 p, .slice A n c] 24)) by go_grown) (hb.mono (by simp)) : Below w.heap.size w W'))
  clear K0
  obtain ⟨T, hT⟩ : ∃ T : Nat, p - s = (T : Int) := Int.eq_ofNat_of_zero_le (by omega)
  have i1 : IntKind.i64.wrap (p - s) = (T : Int) := by rw [hT]; exact IntWalk.i64_in _ (by omega)
  have hT24 : T ≤ 22 := by omega
  have HT : Hid ((p - s + 1).toNat = T + 1) := by show _ = _; omega
  clear hT
  go_enter Try.func31, Try.ntmps31
  go_wp2
  go_loopw [5, 6, 7] (fun v hv iv wr => ∃ (i m : Nat) (h : Int) (A' : Option Addr) (c' : Nat) (os : List Wk), i ≤ n ∧ m ≤ 2 * i ∧ -1 ≤ h ∧ h ≤ 22 ∧ iv = .int .i64 (i : Int) ∧ hv = .int .i64 h ∧ v = .slice A' m c' ∧ Hid (wr.ownsRow (w.heap.size + 1) 35 3 v m (wksCells os)) ∧ Hid (os.length = m) ∧ Hid (os ++ stAll p s h (ws.drop i) = stAll p s (-1) ws) ∧ Hid (Below (w.heap.size + 1) (w.alloc (.cells #[.int .i64 p, .slice A n c] 24)) wr)) (fun _ _ iv _ => n - (intOf iv).toNat)
  case atStart =>
    refine ⟨0, 0, -1, none, 0, [], Nat.zero_le _, Nat.le_refl _, by omega, by omega, rfl, rfl, rfl, ?_, rfl, ?_, ?_⟩
    · exact World.ownsRow_nil _ _ _ _
    · show _ = _
      simp
    · exact Below.refl _ _
  case round =>
    obtain ⟨i, m, h, A', c', os, hi, hm, hh1, hh2, rfl, rfl, rfl, HO, HLo, HE, HB⟩ := hrel
    obtain ⟨wo, rfl⟩ : ∃ wo : World, wo = wr := ⟨_, rfl⟩
    have hk := HK.out wo HB.out
    have k0 : wo.cell? ⟨w.heap.size, 0, none⟩ = some (.int .i64 p) := hk.cell 0
    have k1 : wo.cell? ⟨w.heap.size, 1, none⟩ = some (.slice A n c) := hk.cell 1
    have q0 := hk.lt
    clear hk
    by_cases hlt : i < n
    · have jk : (i : Int) < (n : Int) := by omega
      obtain ⟨x, hx⟩ := get_of_lt (l := ws) (k := i) (by rw [HL.out]; exact hlt)
      obtain ⟨b, o, hA, hb, c0, c1, c2⟩ := (HW.out.up (HWK.out wo HB.out)) i x hx
      have hab := HA.out x (mem_of_get hx)
      have HD := Lib.hid (drop_cons hx)
      have CH := Lib.hid (held15 h s x.at_ wo (by omega) (by omega) (by omega))
      have HX := Lib.hid hx
      clear hx
      have HAE := Lib.hid hA
      subst hA
      go_wp2_with fail
      refine CH.out.mono ?_
      rintro e w1 ⟨rfl, rfl⟩
      clear CH
      cases hheld : heldB h s x.at_ with
      | true =>
        have HE2 : Hid ((os ++ [stepOf x]) ++ stAll p s h (ws.drop (i + 1)) = stAll p s (-1) ws) := by
          show _ = _
          rw [← HE.out, HD.out, stAll_held hheld, List.append_assoc]; rfl
        have CS := Lib.hid (step15 x.kind x.at_ x.word wo)
        go_wp2_with fail
        refine CS.out.mono ?_
        rintro e w2 ⟨rfl, hb2⟩
        have O2 := Lib.hid (own_below HO.out hb2)
        have z0 : w.heap.size + 1 ≤ wo.heap.size := by omega
        have B2 := Lib.hid (HB.out.trans (hb2.mono z0))
        have z2 : w.heap.size + 1 ≤ w2.heap.size := Nat.le_trans z0 hb2.size
        clear hb2 CS
        go_wp2_with (at_builtin; refine wpList_app rfl (.tmp 53) (.tmp 60) _ rfl (w.heap.size + 1) 35 (.agg #[.int .i64 0, .int .i64 0, .string ⟨#[]⟩]) 3 32 Try.underlying25 infoCs rfl (by omega) (by omega) (.slice A' m c') _ _ rfl (O2.out.alloc _) w2.heap.size (wkCells (stepOf x)) rfl rfl (news_wk _ (stepOf x) _) (one_wk _) (by omega) (by simp; omega) ?_; intro g5 cap5 w5 hg5 hown5 hgrow5 hor5)
        go_roundw
        case rel =>
          refine ⟨i + 1, m + 1, h, _, cap5, os ++ [stepOf x], by omega, by omega, hh1, hh2, by go_num, rfl, rfl, ?_, ?_, HE2, ?_⟩
          · show World.ownsRow _ _ _ _ _ _ _
            rw [wksCells_app]; exact hown5
          · show _ = _
            rw [List.length_append, HLo.out]; rfl
          · show Below _ _ _
            exact (B2.out.alloc z2 (.cells #[.int .i64 (stepOf x).kind, .int .i64 (stepOf x).at_, .string (stepOf x).word] 35)).grown hgrow5 (by simp; omega) (fun k hk => (O2.out.lt k hk).1)
        case measure => first | (simp [intOf]; done) | (simp [intOf]; omega)
      | false =>
        have CR := Lib.hid (fun (h : Nat) (hh : h ≤ 1000) (W' : World) (hb : Below wo.heap.size wo W') => run15 p _ n c ws i (h : Int) s W' (HW.out.up ((HWK.out wo HB.out).trans (hb.mono (HWK.out wo HB.out).size))) HL.out hn (by omega) (by omega) (fun y hy => by have := HA.out y hy; omega) (by omega))
        have HB1 := HB
        have HO1 := HO
        have hz0 : w.heap.size + 1 ≤ wo.heap.size := by omega
        go_wp2
        go_loopw [8, 9] (fun bv hv wr => ∃ (H : Nat), H ≤ T + 1 ∧ hv = .int .i64 (H : Int) ∧ bv = .int .i64 ((bestN s (ws.drop i) H : Nat) : Int) ∧ Hid (Below wo.heap.size wo wr)) (fun _ hv _ => T + 1 - (intOf hv).toNat)
        case atStart => exact ⟨0, Nat.zero_le _, rfl, rfl, by show Below _ _ _; exact Below.refl _ _⟩
        case round =>
          obtain ⟨H, hH, rfl, rfl, HC⟩ := hrel
          obtain ⟨wq, rfl⟩ : ∃ wq : World, wq = wr := ⟨_, rfl⟩
          have m0 : wq.cell? ⟨w.heap.size, 0, none⟩ = some (.int .i64 p) := (HC.out.cell (p := ⟨w.heap.size, 0, none⟩) q0).trans k0
          have m1 : wq.cell? ⟨w.heap.size, 1, none⟩ = some (.slice (some ⟨b, o, none⟩) n c) := (HC.out.cell (p := ⟨w.heap.size, 1, none⟩) q0).trans k1
          have qz := HC.out.size
          have q1 : w.heap.size < wq.heap.size := by omega
          by_cases hHT : H < T + 1
          · have jh : (H : Int) ≤ (T : Int) := by omega
            have hbe := bestN_le s (ws.drop i) H
            have HBS : Hid (bestN s (ws.drop i) (H + 1) = if runL (bestN s (ws.drop i) H : Nat) s (ws.drop i) < runL (H : Nat) s (ws.drop i) then H else bestN s (ws.drop i) H) := rfl
            generalize bestN s (ws.drop i) H = be at *
            have hxc := fun (x : Ext wq) => x.cell
            go_wp2
            refine wp_region_ext (by kernel_rfl) (by kernel_rfl) ?_
            repeat (go_big_quiet_step ((first | (go_at_call 64; exact ext_call (CR.out _ (by omega) _ (HC.out.trans ((Ext.below _).mono qz)))))))
            refine wpQuiet_nil ?_
            intro w6 hw'
            have hb6 := ext_below hw'
            clear hw' hxc
            have C6 := Lib.hid (HC.out.trans (hb6.mono qz))
            by_cases hrun : runL (be : Nat) s (ws.drop i) < runL (H : Nat) s (ws.drop i)
            · rw [if_pos hrun] at HBS
              have jr : ((runL (be : Nat) s (ws.drop i) : Nat) : Int) < ((runL (H : Nat) s (ws.drop i) : Nat) : Int) := by omega
              clear hrun
              go_wp2
              go_roundw
              case rel => exact ⟨H + 1, by omega, by go_num, by rw [HBS.out], C6⟩
              case measure => first | (simp [intOf]; done) | (simp [intOf]; omega)
            · rw [if_neg hrun] at HBS
              go_wp2
              go_roundw
              case rel => exact ⟨H + 1, by omega, by go_num, by rw [HBS.out], C6⟩
              case measure => first | (simp [intOf]; done) | (simp [intOf]; omega)
          · obtain rfl : H = T + 1 := by omega
            obtain ⟨be, hbe⟩ : ∃ be, be = bestN s (ws.drop i) (T + 1) := ⟨_, rfl⟩
            have hbe2 : be ≤ T + 1 := by rw [hbe]; exact bestN_le _ _ _
            have hbe3 : be ≤ 22 := by have := bestN_lt s (ws.drop i) T; omega
            have HE2 : Hid ((os ++ [⟨1, (be : Int), ⟨#[]⟩⟩] ++ [stepOf x]) ++ stAll p s (be : Int) (ws.drop (i + 1)) = stAll p s (-1) ws) := by
              show _ = _
              rw [← HE.out, HD.out, stAll_reach hheld, HT.out, ← HD.out, ← hbe]
              simp
            rw [← hbe]
            clear hbe
            have O1 := Lib.hid (own_below HO1.out HC.out)
            have B1 := Lib.hid (HB1.out.trans (HC.out.mono hz0))
            have zq : w.heap.size + 1 ≤ wq.heap.size := by omega
            have jh : ¬ (((T + 1 : Nat) : Int)) ≤ (T : Int) := by omega
            clear HO HB HO1 HB1 CR
            go_wp2_with (at_builtin; refine wpList_app rfl (.tmp 48) (.tmp 51) _ rfl (w.heap.size + 1) 35 (.agg #[.int .i64 0, .int .i64 0, .string ⟨#[]⟩]) 3 32 Try.underlying25 infoCs rfl (by omega) (by omega) (.slice A' m c') _ _ rfl (O1.out.alloc _) wq.heap.size (wkCells ⟨1, (be : Int), ⟨#[]⟩⟩) rfl rfl (news_wk _ ⟨1, (be : Int), ⟨#[]⟩⟩ _) (one_wk _) (by omega) (by simp; omega) ?_; intro g4 cap4 w4 hg4 hown4 hgrow4 hor4; have B4 : Below (w.heap.size + 1) (w.alloc (.cells #[.int .i64 p, .slice (some ⟨b, o, none⟩) n c] 24)) w4 := (B1.out.alloc zq (.cells #[.int .i64 1, .int .i64 (be : Int), .string ⟨#[]⟩] 35)).grown hgrow4 (by simp; omega) (fun k hk => (O1.out.lt k hk).1); have hk4 := HK.out w4 B4; have n0 : w4.cell? ⟨w.heap.size, 0, none⟩ = some (.int .i64 p) := hk4.cell 0; have n1 : w4.cell? ⟨w.heap.size, 1, none⟩ = some (.slice (some ⟨b, o, none⟩) n c) := hk4.cell 1; have hq4 := hk4.lt; obtain ⟨b', o', hA', hb', d0, d1, d2⟩ := (HW.out.up (HWK.out w4 B4)) i x HX.out; injection hA' with hA'; injection hA' with hA1 hA2; subst hA1 hA2; clear hk4)
            have O4 := Lib.hid hown4
            have HB4 := Lib.hid B4
            have z4 : w.heap.size + 1 ≤ w4.heap.size := by omega
            have CS := Lib.hid (step15 x.kind x.at_ x.word w4)
            clear hown4 hgrow4 hor4 B4
            refine CS.out.mono ?_
            rintro e w2 ⟨rfl, hb2⟩
            have O2 := Lib.hid (own_below O4.out hb2)
            have B2 := Lib.hid (HB4.out.trans (hb2.mono z4))
            have z2 : w.heap.size + 1 ≤ w2.heap.size := Nat.le_trans z4 hb2.size
            clear hb2 CS O4 HB4
            go_wp2_with (at_builtin; refine wpList_app rfl (.tmp 53) (.tmp 60) _ rfl (w.heap.size + 1) 35 (.agg #[.int .i64 0, .int .i64 0, .string ⟨#[]⟩]) 3 32 Try.underlying25 infoCs rfl (by omega) (by omega) (.slice (some ⟨g4, 0, none⟩) (m + 1) cap4) _ _ rfl (O2.out.alloc _) w2.heap.size (wkCells (stepOf x)) rfl rfl (news_wk _ (stepOf x) _) (one_wk _) (by omega) (by simp; omega) ?_; intro g5 cap5 w5 hg5 hown5 hgrow5 hor5)
            go_roundw
            case rel =>
              refine ⟨i + 1, m + 2, (be : Int), _, cap5, os ++ [⟨1, (be : Int), ⟨#[]⟩⟩] ++ [stepOf x], by omega, by omega, by omega, by omega, by go_num, rfl, rfl, ?_, ?_, HE2, ?_⟩
              · show World.ownsRow _ _ _ _ _ _ _
                rw [wksCells_app, wksCells_app]; exact hown5
              · show _ = _
                rw [List.length_append, List.length_append, HLo.out]; rfl
              · show Below _ _ _
                exact (B2.out.alloc z2 (.cells #[.int .i64 (stepOf x).kind, .int .i64 (stepOf x).at_, .string (stepOf x).word] 35)).grown hgrow5 (by simp; omega) (fun k hk => (O2.out.lt k hk).1)
            case measure => first | (simp [intOf]; done) | (simp [intOf]; omega)
    · obtain rfl : i = n := by omega
      have jk : ¬ (i : Int) < (i : Int) := by omega
      have HQ : Hid (os = stAll p s (-1) ws) := by
        show _ = _
        rw [← HE.out, List.drop_of_length_le (by rw [HL.out]; exact Nat.le_refl _)]
        exact (List.append_nil _).symm
      go_wp2
      go_ret
      exact ⟨A', m, c', rfl, by rw [← HQ.out]; exact own_mono HO.out (by omega), by rw [← HQ.out]; exact HLo.out, HWK.out wo HB.out⟩
end Go.Proofs.Ytaenafcecfdffaa
/-
  Plain law of PillowMakes: the instructions for a sheet may be done, and make it.
-/
namespace Go.Proofs.Ytaenafcecfdffaa
open Go.RowKit
theorem cpE_ok {p s h : Int} {m : Nat} {x : Wk} (h1 : shapeB x.kind x.word = true) (h2 : wchk x.word = 0) (h3 : 0 ≤ x.at_) (h4 : x.at_ ≤ p - 2) (h5 : x.kind = 1 → x.at_ ≤ p - s) (h6 : x.kind ≠ 1 → h ≤ x.at_ ∧ x.at_ + 2 ≤ h + s) (h7 : m ≠ 400) : cpE p s h m x = 0 := by
  obtain ⟨k, a, d⟩ := x
  simp only [] at h1 h2 h3 h4 h5 h6
  refine cpE_0 h1 h2 ?_ ?_ ?_
  · rintro (c | c | ⟨c1, c2⟩)
    · omega
    · omega
    · have := h5 c1; omega
  · rintro ⟨c1, c2⟩
    have := h6 c1; omega
  · rintro ⟨_, c2⟩
    exact h7 c2
/-- the hands lie nowhere, or where they may -/
def HandsOk (p s : Int) (h : Int) : Prop := h = -1 ∨ (0 ≤ h ∧ h ≤ p - s)
theorem pilE_ok {p s : Int} {z : Pil} {x : Wk} (hp : 2 ≤ p ∧ p ≤ 24) (hs : 2 ≤ s ∧ s ≤ 8 ∧ s ≤ p) (hh : HandsOk p s z.hands) (h1 : shapeB x.kind x.word = true) (h2 : wchk x.word = 0) (h3 : 0 ≤ x.at_) (h4 : x.at_ ≤ p - 2) (h5 : x.kind = 1 → x.at_ ≤ p - s) (h6 : x.kind ≠ 1 → z.works.length ≠ 400 ∧ 0 ≤ z.hands ∧ z.hands ≤ x.at_ ∧ x.at_ + 2 ≤ z.hands + s) : pilE p s z x = 0 := by
  have hc : csE p s (handL z.hands ++ [x]) = 0 := by
    unfold csE
    have hsp : spB p s = true := decide_eq_true hs
    rw [if_neg (by rw [hsp]; rintro (c | c | c); · omega
                   · omega
                   · cases c), if_neg (by unfold handL; split <;> simp)]
    by_cases h0 : 0 ≤ z.hands
    · rw [show handL z.hands = [⟨1, z.hands, ⟨#[]⟩⟩] from if_pos h0]
      have hr : z.hands ≤ p - s := by rcases hh with hh | hh <;> omega
      show cpAll p s (-s) 0 (⟨1, z.hands, ⟨#[]⟩⟩ :: [x]) = 0
      rw [cpAll_reach (by decide) (by decide) (by omega)]
      have e : cpE p s z.hands 0 x = 0 := cpE_ok h1 h2 h3 h4 h5 (fun hk => (h6 hk).2.2) (by decide)
      unfold cpAll
      rw [e, if_neg (by decide)]
      split <;> rfl
    · rw [show handL z.hands = [] from if_neg h0]
      show cpAll p s (-s) 0 (x :: []) = 0
      have e : cpE p s (-s) 0 x = 0 := cpE_ok h1 h2 h3 h4 h5 (fun hk => absurd (h6 hk).2.1 h0) (by decide)
      unfold cpAll
      rw [e, if_neg (by decide)]
      split <;> rfl
  unfold pilE
  rw [hc, if_neg (by decide), if_neg (fun c => (h6 c.1).1 c.2)]
theorem bestN_max (s : Int) (l : List Wk) : ∀ H h : Nat, h < H → runL (h : Nat) s l ≤ runL (bestN s l H : Nat) s l
  | 0, h, hh => by omega
  | H + 1, h, hh => by
    have ih := bestN_max s l H h
    unfold bestN
    split
    · rename_i hc
      by_cases e : h = H
      · subst e; exact Nat.le_refl _
      · have := ih (by omega); omega
    · rename_i hc
      by_cases e : h = H
      · subst e; omega
      · exact ih (by omega)
theorem best_held {p s : Int} {x : Wk} {l : List Wk} (hs : 2 ≤ s ∧ s ≤ 8 ∧ s ≤ p) (h3 : 0 ≤ x.at_) (h4 : x.at_ ≤ p - 2) : heldB (bestN s (x :: l) (p - s + 1).toNat : Nat) s x.at_ = true ∧ ((bestN s (x :: l) (p - s + 1).toNat : Nat) : Int) ≤ p - s := by
  obtain ⟨T, hT⟩ : ∃ T : Nat, p - s = (T : Int) := Int.eq_ofNat_of_zero_le (by omega)
  rw [show (p - s + 1).toNat = T + 1 by omega]
  have hle := bestN_lt s (x :: l) T
  refine ⟨?_, by omega⟩
  have hm := bestN_max s (x :: l) (T + 1) (if x.at_ ≤ (T : Int) then x.at_.toNat else T) (by split <;> omega)
  have h1 : heldB ((if x.at_ ≤ (T : Int) then x.at_.toNat else T : Nat) : Int) s x.at_ = true := by
    apply decide_eq_true
    split <;> omega
  have h2 : runL ((if x.at_ ≤ (T : Int) then x.at_.toNat else T : Nat) : Int) s (x :: l) = 1 + runL ((if x.at_ ≤ (T : Int) then x.at_.toNat else T : Nat) : Int) s l := if_pos h1
  cases hb : heldB (bestN s (x :: l) (T + 1) : Nat) s x.at_ with
  | true => rfl
  | false =>
    have h3 : runL (bestN s (x :: l) (T + 1) : Nat) s (x :: l) = 0 := if_neg (by rw [hb]; decide)
    omega
def goAll (p s : Int) : Pil → List Wk → Prop
  | _, [] => True
  | z, x :: r => pilE p s z x = 0 ∧ goAll p s (z.step x) r
theorem empty_of {s : ByteArray} (h : s.size = 0) : s = ⟨#[]⟩ := by
  obtain ⟨d⟩ := s
  congr
  exact Array.eq_empty_of_size_eq_zero h
theorem letters_works (z : Pil) (mid : Nat) (bs : List UInt8) (k : Nat) : (z.letters mid bs k).works = z.works ∧ (z.letters mid bs k).hands = z.hands := ⟨(Pil.letters_all z mid bs k).2.1, (Pil.letters_all z mid bs k).1⟩
/-- a work's step -/
theorem step_work (z : Pil) (p : Int) {x : Wk} (hg : wkBad p x = false) : (z.step (stepOf x)).works = z.works ++ [x] ∧ (z.step (stepOf x)).hands = z.hands := by
  obtain ⟨k, a, d⟩ := x
  unfold stepOf
  by_cases h2 : k = 2
  · subst h2
    have hd : d = ⟨#[]⟩ := by
      refine empty_of ?_
      unfold wkBad at hg
      simp at hg
      rw [hg.2]; rfl
    subst hd
    rw [if_pos rfl]
    unfold Pil.step
    rw [if_neg (show ¬ (3 : Int) = 1 by decide), if_pos rfl]
    exact ⟨rfl, rfl⟩
  · have h1 : k = 1 := by
      unfold wkBad at hg
      simp at hg
      omega
    subst h1
    rw [if_neg h2]
    unfold Pil.step
    rw [if_neg (show ¬ (2 : Int) = 1 by decide), if_neg (show ¬ (2 : Int) = 3 by decide)]
    obtain ⟨e1, e2⟩ := letters_works (z.note ⟨2, a, d⟩) (stepMid ⟨2, a, d⟩) d.data.toList d.data.toList.length
    exact ⟨by show ((z.note ⟨2, a, d⟩).letters _ _ _).works ++ _ = _; rw [e1]; rfl, e2⟩
theorem step_reach (z : Pil) (b : Int) : (z.step ⟨1, b, ⟨#[]⟩⟩).works = z.works ∧ (z.step ⟨1, b, ⟨#[]⟩⟩).hands = b := by
  unfold Pil.step
  rw [if_pos rfl]
  exact ⟨rfl, rfl⟩
theorem wkGood_at {p : Int} {x : Wk} (hg : wkBad p x = false) : 0 ≤ x.at_ ∧ x.at_ ≤ p - 2 := by
  unfold wkBad at hg
  simp at hg
  omega
theorem shape1 : shapeB 1 ⟨#[]⟩ = true := by decide
theorem shape3 : shapeB 3 ⟨#[]⟩ = true := by decide
theorem shape2 (d : ByteArray) : shapeB 2 d = true := by unfold shapeB; rw [if_neg (by decide)]; decide
theorem wchk0 : wchk ⟨#[]⟩ = 0 := by decide
theorem stepOf_ok {x : Wk} (hz : x.word.size ≤ 16) (hf : wOk x.word = true) : shapeB (stepOf x).kind (stepOf x).word = true ∧ wchk (stepOf x).word = 0 ∧ (stepOf x).at_ = x.at_ ∧ (stepOf x).kind ≠ 1 ∧ (stepOf x).word.size ≤ 16 := by
  unfold stepOf
  by_cases h2 : x.kind = 2
  · rw [if_pos h2]; exact ⟨shape3, wchk0, rfl, fun c => absurd (show (3 : Int) = 1 from c) (by decide), Nat.zero_le _⟩
  · rw [if_neg h2]; exact ⟨shape2 _, wchk_ok hz hf, rfl, fun c => absurd (show (2 : Int) = 1 from c) (by decide), hz⟩
theorem st_good {p s : Int} (hp : 2 ≤ p ∧ p ≤ 24) (hs : 2 ≤ s ∧ s ≤ 8 ∧ s ≤ p) : ∀ (l : List Wk) (z : Pil), HandsOk p s z.hands → (∀ x ∈ l, wkBad p x = false ∧ x.word.size ≤ 16 ∧ wOk x.word = true) → z.works.length + l.length ≤ 400 →
    goAll p s z (stAll p s z.hands l) ∧ ((stAll p s z.hands l).foldl Pil.step z).works = z.works ++ l
  | [], z, _, _, _ => ⟨trivial, (List.append_nil _).symm⟩
  | x :: l, z, hh, hv, hn => by
    obtain ⟨hg, hz, hf⟩ := hv x (List.mem_cons_self ..)
    obtain ⟨a0, a1⟩ := wkGood_at hg
    obtain ⟨s1, s2, s3, s4, _⟩ := stepOf_ok hz hf
    have hv' := fun y hy => hv y (List.mem_cons_of_mem _ hy)
    rw [List.length_cons] at hn
    have fin : ∀ z1 : Pil, HandsOk p s z1.hands → z1.works = z.works → heldB z1.hands s x.at_ = true → pilE p s z1 (stepOf x) = 0 ∧ goAll p s (z1.step (stepOf x)) (stAll p s z1.hands l) ∧ ((stAll p s z1.hands l).foldl Pil.step (z1.step (stepOf x))).works = z.works ++ (x :: l) := fun z1 hh1 hw hb => by
      have hb' : 0 ≤ z1.hands ∧ z1.hands ≤ x.at_ ∧ x.at_ + 2 ≤ z1.hands + s := of_decide_eq_true hb
      obtain ⟨w1, w2⟩ := step_work z1 p hg
      have ih := st_good hp hs l (z1.step (stepOf x)) (by rw [w2]; exact hh1) hv' (by rw [w1, hw, List.length_append, List.length_singleton]; omega)
      rw [w2] at ih
      refine ⟨pilE_ok hp hs hh1 s1 s2 (by rw [s3]; exact a0) (by rw [s3]; exact a1) (fun c => absurd c s4) (fun _ => ⟨by rw [hw]; omega, hb'.1, by rw [s3]; exact hb'.2⟩), ih.1, ?_⟩
      rw [ih.2, w1, hw, List.append_assoc]; rfl
    cases hb : heldB z.hands s x.at_ with
    | true =>
      rw [stAll_held hb]
      obtain ⟨f1, f2, f3⟩ := fin z hh rfl hb
      exact ⟨⟨f1, f2⟩, f3⟩
    | false =>
      rw [stAll_reach hb]
      obtain ⟨b1, b2⟩ := best_held (l := l) hs a0 a1
      generalize bestN s (x :: l) (p - s + 1).toNat = b at *
      obtain ⟨r1, r2⟩ := step_reach z (b : Int)
      have hh1 : HandsOk p s (z.step ⟨1, (b : Int), ⟨#[]⟩⟩).hands := by rw [r2]; exact .inr ⟨by omega, b2⟩
      obtain ⟨f1, f2, f3⟩ := fin (z.step ⟨1, (b : Int), ⟨#[]⟩⟩) hh1 r1 (by rw [r2]; exact b1)
      rw [r2] at f2 f3
      refine ⟨⟨pilE_ok hp hs hh shape1 wchk0 (by show 0 ≤ (b : Int); omega) (by show (b : Int) ≤ p - 2; omega) (fun _ => b2) (fun c => absurd rfl c), f1, f2⟩, f3⟩
end Go.Proofs.Ytaenafcecfdffaa
/-
  Plain law of PillowThreads: what a step's crossings and pins are.
-/
namespace Go.Proofs.Ytaenafcecfdffaa
open Go.RowKit
/-- the crossing q is of the threads that lie in its places -/
def CrAt (l : List Int) (q : Q4) : Prop := ∃ t la lb, q.b = ((t : Nat) : Int) ∧ t + 1 < l.length ∧ l[t]? = some la ∧ l[t + 1]? = some lb ∧ (q.c = la ∧ q.d = lb ∨ q.c = lb ∧ q.d = la)
def crLine (l : List Int) (q : Q4) : List Int := exch l q.b.toNat
def crOk : List Int → List Q4 → Prop
  | _, [] => True
  | l, q :: r => CrAt l q ∧ crOk (crLine l q) r
def momL : List Int → List Q4 → List (List Int)
  | l, [] => [l]
  | l, q :: r => l :: momL (crLine l q) r
theorem momL_len : ∀ (r : List Q4) (l : List Int), (momL l r).length = r.length + 1
  | [], l => rfl
  | q :: r, l => by rw [momL, List.length_cons, momL_len r, List.length_cons]
theorem momL_last : ∀ (r : List Q4) (l : List Int), (momL l r)[r.length]? = some (r.foldl crLine l)
  | [], l => rfl
  | q :: r, l => by rw [momL, List.length_cons, List.getElem?_cons_succ]; exact momL_last r (crLine l q)
theorem momL_app : ∀ (r : List Q4) (l : List Int) (q : Q4), momL l (r ++ [q]) = momL l r ++ [crLine (r.foldl crLine l) q]
  | [], l, q => rfl
  | x :: r, l, q => by rw [List.cons_append, momL, momL_app r, momL, List.cons_append]; rfl
theorem crOk_app : ∀ (r : List Q4) (l : List Int) (q : Q4), crOk l (r ++ [q]) ↔ crOk l r ∧ CrAt (r.foldl crLine l) q
  | [], l, q => by show CrAt l q ∧ True ↔ True ∧ CrAt l q; exact ⟨fun h => ⟨trivial, h.1⟩, fun h => ⟨h.2, trivial⟩⟩
  | x :: r, l, q => by
    show CrAt l x ∧ crOk (crLine l x) (r ++ [q]) ↔ (CrAt l x ∧ crOk (crLine l x) r) ∧ CrAt (r.foldl crLine (crLine l x)) q
    rw [crOk_app r]
    exact ⟨fun h => ⟨⟨h.1, h.2.1⟩, h.2.2⟩, fun h => ⟨h.1.1, h.1.2, h.2⟩⟩
theorem crLine_len (l : List Int) (q : Q4) : (crLine l q).length = l.length := exch_len _ _
theorem foldl_cr_len (r : List Q4) : ∀ l : List Int, (r.foldl crLine l).length = l.length := by
  induction r with
  | nil => intro l; rfl
  | cons q r ih => intro l; rw [List.foldl_cons, ih, crLine_len]
theorem momL_all : ∀ (r : List Q4) (l : List Int), ∀ x ∈ momL l r, x.length = l.length
  | [], l, x, hx => by rw [List.mem_singleton.1 hx]
  | q :: r, l, x, hx => by
    rcases List.mem_cons.1 hx with rfl | hx
    · rfl
    · rw [momL_all r _ x hx, crLine_len]
/-- what z1 has more than z: crossings of the threads in their places, pins that stand at some moment, in order -/
structure Grew (z z1 : Pil) (new : List Q4) (pn : List Pn) (f : Nat → Nat) : Prop where
  xs : z1.xs = z.xs ++ new
  ps : z1.ps = z.ps ++ pn
  ok : crOk z.l new
  l : z1.l = new.foldl crLine z.l
  at_ : ∀ (j : Nat) (q : Pn), pn[j]? = some q → ∃ x, (momL z.l new)[f j]? = some x ∧ Stands q.q x
  up : ∀ i j, i ≤ j → f i ≤ f j
  le : ∀ j, f j ≤ new.length
theorem Grew.refl (z z1 : Pil) (hx : z1.xs = z.xs) (hp : z1.ps = z.ps) (hl : z1.l = z.l) : Grew z z1 [] [] (fun _ => 0) :=
  ⟨by rw [hx, List.append_nil], by rw [hp, List.append_nil], trivial, hl, fun j q h => by simp at h, fun _ _ _ => Nat.le_refl _, fun _ => Nat.le_refl _⟩
theorem Grew.stick {z z1 : Pil} {new : List Q4} {pn : List Pn} {f : Nat → Nat} (h : Grew z z1 new pn f) (mid : Nat) (sew : Bool) (hm : mid + 1 < z1.l.length) : ∃ pn' f', Grew z (z1.stick mid sew) new pn' f' := by
  obtain ⟨la, hla⟩ := get_of_lt (l := z1.l) (k := mid) (by omega)
  obtain ⟨lb, hlb⟩ := get_of_lt (l := z1.l) (k := mid + 1) hm
  refine ⟨pn ++ [⟨⟨(z1.works.length : Int), (mid : Int), la, lb⟩, sew, false⟩], fun j => if j < pn.length then f j else new.length, ?_, ?_, h.ok, h.l, ?_, ?_, ?_⟩
  · exact h.xs
  · show z1.ps ++ [_] = _
    rw [h.ps, List.append_assoc, List.getD_eq_getElem?_getD, List.getD_eq_getElem?_getD, hla, hlb]; rfl
  · intro j q hj
    by_cases hlt : j < pn.length
    · rw [List.getElem?_append_left hlt] at hj
      show ∃ x, (momL z.l new)[if j < pn.length then f j else new.length]? = some x ∧ _
      rw [if_pos hlt]
      exact h.at_ j q hj
    · rw [List.getElem?_append_right (by omega)] at hj
      have hj0 : j - pn.length = 0 := by have := lt_of_get hj; simpa using this
      rw [hj0] at hj
      obtain rfl : _ = q := by simpa using hj
      show ∃ x, (momL z.l new)[if j < pn.length then f j else new.length]? = some x ∧ _
      rw [if_neg hlt, momL_last, ← h.l]
      exact ⟨_, rfl, mid, rfl, hm, hla, hlb⟩
  · intro i j hij
    show (if i < pn.length then f i else new.length) ≤ (if j < pn.length then f j else new.length)
    by_cases h1 : i < pn.length
    · by_cases h2 : j < pn.length
      · rw [if_pos h1, if_pos h2]; exact h.up i j hij
      · rw [if_pos h1, if_neg h2]; exact h.le i
    · rw [if_neg h1, if_neg (by omega)]; exact Nat.le_refl _
  · intro j
    show (if j < pn.length then f j else new.length) ≤ _
    split
    · exact h.le j
    · exact Nat.le_refl _
theorem Grew.cross {z z1 : Pil} {new : List Q4} {pn : List Pn} {f : Nat → Nat} (h : Grew z z1 new pn f) (t : Nat) (left : Bool) (ht : t + 1 < z1.l.length) : ∃ new', Grew z (z1.cross t left) new' pn f := by
  obtain ⟨la, hla⟩ := get_of_lt (l := z1.l) (k := t) (by omega)
  obtain ⟨lb, hlb⟩ := get_of_lt (l := z1.l) (k := t + 1) ht
  refine ⟨new ++ [if left then ⟨(z1.works.length : Int), (t : Int), la, lb⟩ else ⟨(z1.works.length : Int), (t : Int), lb, la⟩], ?_, h.ps, ?_, ?_, ?_, h.up, ?_⟩
  · show z1.xs ++ [_] = _
    rw [h.xs, List.append_assoc, List.getD_eq_getElem?_getD, List.getD_eq_getElem?_getD, hla, hlb]; rfl
  · rw [crOk_app]
    refine ⟨h.ok, ?_⟩
    rw [← h.l]
    cases left with
    | true => exact ⟨t, la, lb, rfl, ht, hla, hlb, .inl ⟨rfl, rfl⟩⟩
    | false => exact ⟨t, la, lb, rfl, ht, hla, hlb, .inr ⟨rfl, rfl⟩⟩
  · rw [List.foldl_append, ← h.l]
    show exch z1.l t = crLine z1.l _
    unfold crLine
    cases left <;> rfl
  · intro j q hj
    obtain ⟨x, hx, hs⟩ := h.at_ j q hj
    refine ⟨x, ?_, hs⟩
    rw [momL_app, List.getElem?_append_left (lt_of_get hx)]
    exact hx
  · intro j
    rw [List.length_append]
    exact Nat.le_trans (h.le j) (Nat.le_add_right _ _)
theorem Grew.crosses {z z1 : Pil} {new : List Q4} {pn : List Pn} {f : Nat → Nat} (h : Grew z z1 new pn f) (mid : Nat) (ns : List Int) (hn : ∀ n ∈ ns, n ≠ 0 ∧ -3 ≤ n ∧ n ≤ 3) (hm : 1 ≤ mid ∧ mid + 2 < z1.l.length) : ∀ j, ∃ new', Grew z (z1.crosses mid ns j) new' pn f
  | 0 => ⟨new, h⟩
  | j + 1 => by
    obtain ⟨new', h'⟩ := Grew.crosses h mid ns hn hm j
    cases hj : ns[j]? with
    | none =>
      have e : z1.crosses mid ns (j + 1) = z1.crosses mid ns j := by
        show (match ns[j]? with | none => _ | some n => _) = _
        rw [hj]
      rw [e]; exact ⟨new', h'⟩
    | some n =>
      rw [Pil.crosses_succ hj]
      obtain ⟨e1, e2, e3⟩ := hn n (mem_of_get hj)
      have hl := (Pil.crosses_all z1 mid ns j).2.2.2.2.2.1
      refine h'.cross _ _ ?_
      rw [hl]
      unfold mkAt
      split <;> omega
theorem Grew.letters {z z1 : Pil} {new : List Q4} {pn : List Pn} {f : Nat → Nat} (h : Grew z z1 new pn f) (mid : Nat) (bs : List UInt8) (hm : 1 ≤ mid ∧ mid + 2 < z1.l.length) : ∀ k, ∃ new' pn' f', Grew z (z1.letters mid bs k) new' pn' f'
  | 0 => ⟨new, pn, f, h⟩
  | k + 1 => by
    obtain ⟨new', pn', f', h'⟩ := Grew.letters h mid bs hm k
    have hl := (Pil.letters_all z1 mid bs k).2.2.2.2.1
    cases hk : bs[k]? with
    | none =>
      have e : z1.letters mid bs (k + 1) = z1.letters mid bs k := by
        show (match bs[k]? with | none => _ | some n => _) = _
        rw [hk]
      rw [e]; exact ⟨new', pn', f', h'⟩
    | some c =>
      rw [Pil.letters_succ hk]
      unfold Pil.letter
      split
      · obtain ⟨pn2, f2, h2⟩ := h'.stick mid false (by rw [hl]; omega)
        exact ⟨new', pn2, f2, h2⟩
      · obtain ⟨new2, h2⟩ := h'.crosses mid (crW [c] 1) (crL_mem c) (by rw [hl]; exact hm) (crW [c] 1).length
        exact ⟨new2, pn', f', h2⟩
/-- a step that may be done -/
theorem step_grew {p s : Int} {z : Pil} {x : Wk} (hE : pilE p s z x = 0) (hl : z.l.length = 2 * p.toNat) : ∃ new pn f, Grew z (z.step x) new pn f := by
  obtain ⟨hp, hs, _, _, q3, q4, _, _⟩ := pilE_zero hE
  unfold Pil.step
  split
  · exact ⟨[], [], _, Grew.refl _ _ rfl rfl rfl⟩
  · split
    · obtain ⟨pn, f, h⟩ := (Grew.refl z (z.note x) rfl rfl rfl).stick (stepMid x) true (by show stepMid x + 1 < z.l.length; unfold stepMid; omega)
      exact ⟨[], pn, f, h.xs, h.ps, h.ok, h.l, h.at_, h.up, h.le⟩
    · obtain ⟨new, pn, f, h⟩ := (Grew.refl z (z.note x) rfl rfl rfl).letters (stepMid x) x.word.data.toList (by show _ ∧ stepMid x + 2 < z.l.length; unfold stepMid; omega) x.word.data.toList.length
      exact ⟨new, pn, f, h.xs, h.ps, h.ok, h.l, h.at_, h.up, h.le⟩
end Go.Proofs.Ytaenafcecfdffaa
/-
  Plain law of PillowThreads: the word of the crossings, and the ends of a line.
-/
namespace Go.Proofs.Ytaenafcecfdffaa
open Go.RowKit
theorem ends_at (l : List Int) (hv : ∀ x ∈ l, 0 ≤ x) : ∀ k, k ≤ l.length → ∀ i : Nat, i < l.length → (∃ j, j < k ∧ l[j]? = some (i : Int)) → ∃ j, j < k ∧ (endsN l k)[i]? = some (j : Int) ∧ l[j]? = some (i : Int)
  | 0, _, i, _, ⟨j, hj, _⟩ => by omega
  | k + 1, hk, i, hi, ⟨j, hj, hl⟩ => by
    obtain ⟨x, hx⟩ := get_of_lt (l := l) (k := k) (by omega)
    have h0 := hv x (mem_of_get hx)
    rw [endsN_succ hx]
    by_cases e : x = (i : Int)
    · subst e
      refine ⟨k, Nat.lt_succ_self _, ?_, hx⟩
      rw [show ((i : Int)).toNat = i by omega, List.getElem?_set_self (by rw [endsN_len]; exact hi)]
    · have hjk : j ≠ k := fun c => by
        subst c
        rw [hx] at hl
        injection hl with hl
        exact e hl
      obtain ⟨j', h1, h2, h3⟩ := ends_at l hv k (by omega) i hi ⟨j, by omega, hl⟩
      refine ⟨j', by omega, ?_, h3⟩
      rw [List.getElem?_set_ne (by omega)]
      exact h2
/-- every number below n lies somewhere -/
def ReachN (n : Nat) (l : List Int) : Prop := ∀ i : Nat, i < n → ∃ j : Nat, l[j]? = some (i : Int)
theorem reach_line (n : Nat) : ReachN n (lineN n) := fun i hi => ⟨i, by simp [lineN, hi]⟩
theorem exch_get {l : List Int} {t : Nat} {la lb : Int} (ha : l[t]? = some la) (hb : l[t + 1]? = some lb) : (exch l t)[t]? = some lb ∧ (exch l t)[t + 1]? = some la ∧ ∀ j, j ≠ t → j ≠ t + 1 → (exch l t)[j]? = l[j]? := by
  have h1 := lt_of_get ha
  have h2 := lt_of_get hb
  unfold exch
  rw [List.getD_eq_getElem?_getD, List.getD_eq_getElem?_getD, ha, hb]
  refine ⟨?_, ?_, fun j hj hj' => ?_⟩
  · rw [List.getElem?_set_ne (by omega), List.getElem?_set_self h1]; rfl
  · rw [List.getElem?_set_self (by rw [List.length_set]; exact h2)]; rfl
  · rw [List.getElem?_set_ne (by omega), List.getElem?_set_ne (by omega)]
theorem reach_exch {n t : Nat} {l : List Int} (h : ReachN n l) (ht : t + 1 < l.length) : ReachN n (exch l t) := fun i hi => by
  obtain ⟨j, hj⟩ := h i hi
  obtain ⟨la, ha⟩ := get_of_lt (l := l) (k := t) (by omega)
  obtain ⟨lb, hb⟩ := get_of_lt ht
  obtain ⟨e1, e2, e3⟩ := exch_get ha hb
  by_cases c1 : j = t
  · subst c1
    rw [ha] at hj
    exact ⟨j + 1, by rw [e2, hj]⟩
  by_cases c2 : j = t + 1
  · subst c2
    rw [hb] at hj
    exact ⟨t, by rw [e1, hj]⟩
  · exact ⟨j, by rw [e3 j c1 c2, hj]⟩
/-- the letter of a crossing -/
def letQ (l : List Int) (q : Q4) : Int := if q.c = l.getD q.b.toNat 0 then q.b + 1 else -q.b - 1
def wordL : List Int → List Q4 → List Int
  | _, [] => []
  | l, q :: r => letQ l q :: wordL (crLine l q) r
theorem wordL_app : ∀ (r : List Q4) (l : List Int) (q : Q4), wordL l (r ++ [q]) = wordL l r ++ [letQ (r.foldl crLine l) q]
  | [], l, q => rfl
  | x :: r, l, q => by rw [List.cons_append, wordL, wordL_app r, wordL, List.cons_append]; rfl
theorem wordL_len : ∀ (r : List Q4) (l : List Int), (wordL l r).length = r.length
  | [], l => rfl
  | q :: r, l => by rw [wordL, List.length_cons, wordL_len r, List.length_cons]
theorem letQ_abs {l : List Int} {q : Q4} (h : CrAt l q) : (letQ l q).natAbs - 1 = q.b.toNat ∧ letQ l q ≠ 0 ∧ -(l.length : Int) < letQ l q ∧ letQ l q < (l.length : Int) := by
  obtain ⟨t, la, lb, hb, ht, _⟩ := h
  unfold letQ
  rw [hb]
  split <;> (refine ⟨?_, ?_, ?_, ?_⟩ <;> omega)
theorem word_fold : ∀ (r : List Q4) (l : List Int), crOk l r → (wordL l r).foldl (fun l u => exch l (u.natAbs - 1)) l = r.foldl crLine l
  | [], l, _ => rfl
  | q :: r, l, h => by
    rw [wordL, List.foldl_cons, (letQ_abs h.1).1, List.foldl_cons]
    exact word_fold r (crLine l q) h.2
theorem word_ok : ∀ (r : List Q4) (l : List Int), crOk l r → ∀ u ∈ wordL l r, u ≠ 0 ∧ -(l.length : Int) < u ∧ u < (l.length : Int)
  | [], l, _, u, hu => by cases hu
  | q :: r, l, h, u, hu => by
    rcases List.mem_cons.1 hu with rfl | hu
    · exact (letQ_abs h.1).2
    · have := word_ok r (crLine l q) h.2 u hu
      rw [crLine_len] at this
      exact this
theorem crOk_join : ∀ (a b : List Q4) (l : List Int), crOk l (a ++ b) ↔ crOk l a ∧ crOk (a.foldl crLine l) b
  | [], b, l => ⟨fun h => ⟨trivial, h⟩, fun h => h.2⟩
  | q :: a, b, l => by
    show CrAt l q ∧ crOk (crLine l q) (a ++ b) ↔ (CrAt l q ∧ crOk (crLine l q) a) ∧ crOk (a.foldl crLine (crLine l q)) b
    rw [crOk_join a b]
    exact ⟨fun h => ⟨⟨h.1, h.2.1⟩, h.2.2⟩, fun h => ⟨h.1.1, h.1.2, h.2⟩⟩
theorem crOk_get : ∀ (r : List Q4) (l : List Int), crOk l r → ∀ (j : Nat) (q : Q4), r[j]? = some q → CrAt ((r.take j).foldl crLine l) q
  | [], l, _, j, q, h => by simp at h
  | x :: r, l, h, 0, q, hq => by
    obtain rfl : x = q := by simpa using hq
    exact h.1
  | x :: r, l, h, j + 1, q, hq => crOk_get r (crLine l x) h.2 j q (by simpa using hq)
theorem reach_fold : ∀ (r : List Q4) (n : Nat) (l : List Int), crOk l r → ReachN n l → ReachN n (r.foldl crLine l)
  | [], n, l, _, h => h
  | q :: r, n, l, hc, h => by
    obtain ⟨t, la, lb, hb, ht, _⟩ := hc.1
    refine reach_fold r n (crLine l q) hc.2 ?_
    unfold crLine
    rw [hb]
    exact reach_exch h ht
/-- the line is the permutation of the word -/
theorem perm_ends {n : Nat} {r : List Q4} (hc : crOk (lineN n) r) {i : Nat} (hi : i < n) : ∃ j : Nat, (endsN (permN n (wordL (lineN n) r) (wordL (lineN n) r).length) n)[i]? = some (j : Int) ∧ (r.foldl crLine (lineN n))[j]? = some (i : Int) := by
  have e : permN n (wordL (lineN n) r) (wordL (lineN n) r).length = r.foldl crLine (lineN n) := by
    unfold permN
    rw [List.take_length]
    exact word_fold r (lineN n) hc
  rw [e]
  have hlen : (r.foldl crLine (lineN n)).length = n := by rw [foldl_cr_len, lineN_len]
  obtain ⟨j, hj⟩ := reach_fold r n (lineN n) hc (reach_line n) i hi
  have hv : ∀ x ∈ r.foldl crLine (lineN n), 0 ≤ x := by
    have h : ∀ (r : List Q4) (l : List Int), crOk l r → (∀ x ∈ l, 0 ≤ x) → ∀ x ∈ r.foldl crLine l, 0 ≤ x := by
      intro r
      induction r with
      | nil => intro l _ hl; exact hl
      | cons q r ih =>
        intro l hc hl
        obtain ⟨t, la, lb, hb, ht, _⟩ := hc.1
        refine ih (crLine l q) hc.2 (fun x hx => hl x ?_)
        unfold crLine at hx
        rw [hb] at hx
        exact exch_mem ht x hx
    exact h r (lineN n) hc (fun x hx => by simp [lineN] at hx; obtain ⟨a, _, rfl⟩ := hx; omega)
  obtain ⟨j', h1, h2, h3⟩ := ends_at _ hv n (by omega) i (by omega) ⟨j, by have := lt_of_get hj; omega, hj⟩
  exact ⟨j', h2, h3⟩
end Go.Proofs.Ytaenafcecfdffaa
/-
  A region that draws, inside a round of a range over a function: the plain law of a condition in two stages (XHeadB) serves there, too.
-/
namespace Go.Proofs.Ytaenafcecfdffaa
open Go.RowKit
section
variable {P : Program} {ops : Array Oper} {Q : Exit → Act → World → Prop} {md : Region.Mode} {n : Nat}
theorem opIn_of_op {l i : Nat} (hQ : ¬ LetsOut Q) (hnd : ∀ (j : Nat) (o : Oper), ops[j]? = some o → ∀ c, o.op ≠ .defer c) {K K' : Act → World → Prop} (hK : ∀ a w, K a w → K' a w) {a : Act} {w : World} (h : wpOp P ops Q i K a w) : wpOpIn (Fence.wide.inRound l) n P ops Q i K' a w := by
  unfold wpOp at h
  unfold wpOpIn
  cases ho : ops[i]? with
  | none => rw [ho] at h; exact hK _ _ h
  | some o =>
    rw [ho] at h
    simp only [] at h ⊢
    by_cases hw : Region.wanted o (yielded ops a.tmps) = true
    · rw [if_pos hw] at h ⊢
      rcases h with h | h
      · refine ⟨fun _ _ => trivial, ?_⟩
        rw [Oper.semAt_eq _ _ _ (hnd i o ho)]
        unfold Oper.wp at h
        cases hr : (execOp a.eval o).run P w with
        | halt hh w' =>
          rw [hr] at h
          cases hh <;> first | exact h | exact h.elim
        | ok x w' =>
          rw [hr] at h
          cases x with
          | value v => exact hK _ _ h
          | skip => exact hK _ _ h
          | defer d => exact hK _ _ h
          | enter f args =>
            refine ⟨fun hd => by simp [Fence.wide, Fence.inRound] at hd, CallsIn.inRound _ (callsIn_wide.2 (Calls.mono h ?_))⟩
            rintro e w'' he
            cases e with
            | returned v => exact hK _ _ he
            | panicked c => exact he
            | outgrown => exact he
          | row row args =>
            refine ⟨fun hd => by simp [Fence.wide, Fence.inRound] at hd, fun c cs _ => ?_⟩
            obtain ⟨v, w'', hR, hs⟩ := h c cs
            exact ⟨v, w'', hK _ _ hR, stepsIn_wide.2 hs⟩
          | _ => exact h.elim
      · exact absurd h.2 hQ
    · rw [if_neg hw] at h ⊢
      exact ⟨fun _ _ => trivial, hK _ _ h⟩
theorem anyIn_of_any {l : Nat} (hQ : ¬ LetsOut Q) (hnd : ∀ (j : Nat) (o : Oper), ops[j]? = some o → ∀ c, o.op ≠ .defer c) : ∀ (fuel : Nat) (listed : Array Bool) (a : Act) (w : World), wpAny P md ops Q fuel listed a w → wpAnyIn (Fence.wide.inRound l) n P md ops Q fuel listed a w
  | 0, _, _, _, h => h
  | fuel + 1, _, _, _, h => ⟨h.1, fun i hi => opIn_of_op hQ hnd (fun _ _ h => anyIn_of_any hQ hnd fuel _ _ _ h) (h.2 i hi)⟩
/-- no operation of a list is a defer -/
def noDefer (l : List Oper) : Bool := l.all (fun o => match o.op with | .defer _ => false | _ => true)
theorem noDefer_ok {ops : Array Oper} (h : noDefer ops.toList = true) : ∀ (j : Nat) (o : Oper), ops[j]? = some o → ∀ c, o.op ≠ .defer c := fun j o ho c e => by
  have hm : o ∈ ops.toList := by
    rw [← Array.getElem?_toList] at ho
    exact List.mem_of_getElem? ho
  have := List.all_eq_true.1 h o hm
  simp [e] at this
theorem wpIn_region_B {id l : Nat} {a : Act} {w : World} (S : Bool → World → Prop) (k : Nat) (hm : P.follows .mixedOrders = true) (hnd : noDefer ops.toList = true) (hQ : ¬ LetsOut Q)
    (h : wpAnyB P .any ops (NoPanic Q) S k ops.size (Array.replicate ops.size false) a w.drew) : (Code.region id ops true).wpIn (Fence.wide.inRound l) n P Q a w := by
  refine wpIn_mono (wpIn_region_any hm (anyIn_of_any (Q := NoPanic Q) (fun h2 => hQ ?_) (noDefer_ok hnd) _ _ _ _ (wpAny_of_B _ _ _ _ h))) NoPanic.imp
  obtain ⟨a, w, h2⟩ := h2
  exact ⟨a, w, NoPanic.imp _ _ _ h2⟩
end
end Go.Proofs.Ytaenafcecfdffaa
