/-
  Contract of undo.above, and of its closure that marks the places of a work.
-/
import Derived.Test.YtnjenggijmbhcaaVK5
import Derived.Test.YtnjenggijmbhcaaVK8
import Derived.RegionTactic
namespace Go.Proofs.Ytnjenggijmbhcaa
open Go.RowKit
set_option maxRecDepth 100000 in
set_option maxHeartbeats 1000000 in
theorem unReach (k : Int) (m rb : Nat) (s : ByteArray) (t : TypeId) (F : List Value) (w : World) (hr : Has w rb t F) (hF : F.length = 24) (hm : m ≤ 22) :
    Calls Try.prog 61 #[.agg #[.int .i64 k, .int .i64 (m : Int), .string s], .pointer (some ⟨rb, 0, none⟩)] w fun e w' => e = .returned (.tuple #[]) ∧ Has w' rb t ((F.set m (.bool true)).set (m + 1) (.bool true)) ∧ But rb w w' := by
  obtain ⟨v0, hv0⟩ := get_of_lt (l := F) (k := m) (by omega)
  obtain ⟨v1, hv1⟩ := get_of_lt (l := F) (k := m + 1) (by omega)
  have c0 := (hr.cell m).trans hv0
  have c1 := (hr.cell (m + 1)).trans hv1
  have f0 := hr.free m
  have f1 := hr.free (m + 1)
  have hlt := hr.lt
  have HR := Lib.hid hr; clear hr hv0 hv1
  go_enter Try.func61, Try.ntmps61
  go_wp2
  go_region
  all_goals go_end0
  exact ⟨rfl, (((HR.out.set _ _).set _ _).alloc _).drew, (((But.set _ _ _ _).trans (But.set _ _ _ _)).alloc _).drew⟩
def marks (ws : List Wk) (b : Int) (L : List Nat) (q : Nat) : Bool := takes b q || L.any fun k => takes (atOf ws k) q
theorem tch_marks (ws : List Wk) (b : Int) (L : List Nat) (a : Nat) : tch ws b L a = (marks ws b L a || marks ws b L (a + 1)) := by
  unfold tch marks
  rw [touch_takes]
  induction L with
  | nil => simp
  | cons y L ih =>
    simp only [List.any_cons, touch_takes] at ih ⊢
    generalize (L.any fun k => takes (atOf ws k) a || takes (atOf ws k) (a + 1)) = X at *
    generalize (L.any fun k => takes (atOf ws k) a) = Y at *
    generalize (L.any fun k => takes (atOf ws k) (a + 1)) = Z at *
    generalize takes b a = p at *
    generalize takes b (a + 1) = q at *
    generalize takes (atOf ws y) a = r at *
    generalize takes (atOf ws y) (a + 1) = t at *
    revert ih
    revert X Y Z p q r t
    decide
def bools (f : Nat → Bool) : List Value := (List.range 24).map fun q => .bool (f q)
theorem bools_len (f : Nat → Bool) : (bools f).length = 24 := by simp [bools]
theorem bools_get (f : Nat → Bool) (q : Nat) (h : q < 24) : (bools f)[q]? = some (.bool (f q)) := by simp [bools, h]
theorem bools_set (f : Nat → Bool) (m : Nat) : ((bools f).set m (.bool true)).set (m + 1) (.bool true) = bools fun q => f q || takes m q := by
  apply List.ext_getElem?
  intro q
  rw [List.getElem?_set, List.getElem?_set]
  simp only [List.length_set, bools_len]
  rcases Nat.lt_or_ge q 24 with h | h
  · rw [bools_get _ _ h, bools_get _ _ h]
    unfold takes
    by_cases h1 : m + 1 = q
    · subst h1; simp [h]
    · by_cases h2 : m = q
      · subst h2; simp [h]
      · rw [if_neg h1, if_neg h2]
        have e1 : ((q : Int) == (m : Int)) = false := by simp; omega
        have e2 : ((q : Int) == (m : Int) + 1) = false := by simp; omega
        simp [e1, e2]
  · have e : ∀ f, (bools f)[q]? = none := fun f => List.getElem?_eq_none (by rw [bools_len]; exact h)
    rw [e, e]
    split
    · rw [if_neg (by omega)]
    · split
      · rw [if_neg (by omega)]
      · rfl
theorem marks_app (ws : List Wk) (b : Int) (L : List Nat) (j : Nat) (q : Nat) : marks ws b (L ++ [j]) q = (marks ws b L q || takes (atOf ws j) q) := by
  unfold marks; simp [Bool.or_assoc]
theorem infoBs : True := trivial
set_option maxRecDepth 100000 in
set_option maxHeartbeats 1000000 in
theorem unAbove (k : Int) (s : ByteArray) (A : Option Addr) (b n c at_ sb : Nat) (ws : List Wk) (w : World) (hw : RdW w w.heap.size A ws) (hl : ws.length = n)
    (hat : at_ < n) (hn : n ≤ 400) (hnc : n ≤ c) (hcm : c ≤ 9223372036854775807) (hb1 : b ≤ 22) (hr : ∀ x ∈ ws, 0 ≤ x.at_ ∧ x.at_ ≤ 22) (hsb : sb < w.heap.size) (hc1 : w.cell? ⟨sb, 1, none⟩ = some (.slice A n c)) :
    Calls Try.prog 37 #[.pointer (some ⟨sb, 0, none⟩), .int .i64 at_, .agg #[.int .i64 k, .int .i64 (b : Int), .string s]] w (RetI ((abU ws at_ b n).map (fun (k : Nat) => (k : Int))) w) := by
  have HW := Lib.hid hw
  have HL := Lib.hid hl; clear hl
  have HR := Lib.hid hr; clear hr
  obtain ⟨x, hx⟩ := get_of_lt (l := ws) (k := at_) (by rw [HL.out]; exact hat)
  obtain ⟨ba, o, rfl, hb, c1, c2, c3⟩ := hw _ x hx
  clear hw
  obtain ⟨hx0, hx1⟩ := HR.out x (mem_of_get hx)
  obtain ⟨xa, hxa⟩ := Int.eq_ofNat_of_zero_le hx0
  have HX := Lib.hid hx; clear hx
  go_enter Try.func37, Try.ntmps37
  go_wp2_with fail
  have hh := Has.new (w := w.alloc (.cells #[.int .i64 k, .int .i64 (b : Int), .string s] 26)) (arr := #[.bool false, .bool false, .bool false, .bool false, .bool false, .bool false, .bool false, .bool false, .bool false, .bool false, .bool false, .bool false, .bool false, .bool false, .bool false, .bool false, .bool false, .bool false, .bool false, .bool false, .bool false, .bool false, .bool false, .bool false]) (t := 100) (cs := bools fun _ => false) (by rfl)
  simp only [World.size_alloc] at hh
  refine (unReach x.kind xa (w.heap.size + 1) x.word 100 (bools fun _ => false) _ hh (bools_len _) (by omega)).mono ?_
  rintro e w1 ⟨rfl, hh1, hb1'⟩
  have W1 : Below w.heap.size w w1 := Below.trans (by go_grown) (hb1'.below (by omega) (by go_size))
  have e0 : w1.cell? ⟨w.heap.size, 0, none⟩ = some (.int .i64 k) := by rw [hb1'.cell (by simp; omega) (by omega)]; go_simp
  have e1 : w1.cell? ⟨w.heap.size, 1, none⟩ = some (.int .i64 (b : Int)) := by rw [hb1'.cell (by simp; omega) (by omega)]; go_simp
  have e2 : w1.cell? ⟨w.heap.size, 2, none⟩ = some (.string s) := by rw [hb1'.cell (by simp; omega) (by omega)]; go_simp
  have hz1 : w.heap.size + 1 < w1.heap.size := hh1.lt
  have HH1 := Lib.hid hh1; clear hh1 hh
  have HW1 := Lib.hid W1; clear W1 hb1'
  have HC1 := Lib.hid hc1
  go_wp2_with fail
  refine (unReach k b (w.heap.size + 1) s 100 _ _ HH1.out (by simp [bools_len]) (by omega)).mono ?_
  rintro e w2 ⟨rfl, hh2, hb2'⟩
  have W2 : Below w.heap.size w w2 := HW1.out.trans (hb2'.below (by omega) (by omega))
  have k1 : w2.cell? ⟨sb, 1, none⟩ = some (.slice (some ⟨ba, o, none⟩) n c) := by rw [W2.cell hsb]; exact HC1.out
  have hz2 : w.heap.size + 1 < w2.heap.size := hh2.lt
  clear e0 e1 e2 hc1 c1 c2 c3
  have HH2 := Lib.hid hh2; clear hh2
  have HW2 := Lib.hid W2; clear W2 hb2'
  have q2 : sb < w2.heap.size := by have := HW2.out.size; omega
  go_wp2_with (at_builtin; refine wpList_app rfl (.tmp 25) (.tmp 27) _ rfl (w.heap.size + 2) 3 (.int .i64 0) 1 8 Try.underlying29 infoInt rfl (by omega) (by omega) (.slice none 0 0) 0 [] rfl (World.ownsRow_nil _ _ _ _) w2.heap.size [vNat at_] rfl rfl (news_new _ _ _) (one_int _ _) (by omega) (by simp; omega) ?_; intro g1 cap1 w3 hg1 hown1 hgrow1 hor1; have k3 : w3.cell? ⟨sb, 1, none⟩ = some (.slice (some ⟨ba, o, none⟩) n c) := (World.cell?_of_block (hgrow1.block sb (by simp; omega) (by simp [Value.ownBlock]))).trans ((World.cell?_alloc_lt _ _ _ q2).trans k1))
  · have hn1 : n ≤ at_ + 1 := by omega
    have hU : abU ws at_ b n = [at_] := by rw [show n = at_ + 1 by omega, abU_start]
    have hW3 : Below w.heap.size w w3 := ((HW2.out.alloc (by omega) _).grown hgrow1 (by simp; omega) (by simp [Value.ownBlock]))
    have HU := Lib.hid hU; clear hU k1 hgrow1 hor1
    have HO := Lib.hid hown1; clear hown1
    go_loopw [8, 37] (fun v i wr => v = .slice (some ⟨g1, 0, none⟩) 1 cap1 ∧ i = .int .i64 0 ∧ w3 = wr) (fun _ i _ => (intOf i).toNat)
    case atStart => exact ⟨rfl, rfl, rfl⟩
    case round =>
      obtain ⟨rfl, rfl, rfl⟩ := hrel
      go_wp2
      go_ret
      have hcaps := own_caps HO.out
      rw [HU.out]
      exact ⟨_, _, _, rfl, own_rd1 (f := vInt) (xs := [(at_ : Int)]) HO.out, rfl, hcaps.1, hcaps.2, hW3⟩
  · have hhm : Has w3 (w.heap.size + 1) 100 (bools (marks ws b [at_])) := by
      have e : (bools (marks ws b [at_])) = ((((bools fun _ => false).set xa (.bool true)).set (xa + 1) (.bool true)).set b (.bool true)).set (b + 1) (.bool true) := by
        rw [bools_set, bools_set]
        congr 1
        funext q
        unfold marks
        simp only [List.any_cons, List.any_nil, atOf_get HX.out, hxa, Bool.false_or, Bool.or_comm]
      rw [e]
      exact (HH2.out.alloc _).same (hgrow1.block _ (by simp; omega) (by simp [Value.ownBlock]))
    have hW3 : Below w.heap.size w w3 := ((HW2.out.alloc (by omega) _).grown hgrow1 (by simp; omega) (by simp [Value.ownBlock]))
    clear hgrow1 hor1 k1
    go_loopw [8, 37] (fun v i wr => ∃ (j g cap : Nat), at_ + 1 + j ≤ n ∧ i = .int .i64 (j : Int) ∧ v = .slice (some ⟨g, 0, none⟩) (abU ws at_ b (at_ + 1 + j)).length cap ∧
        wr.ownsRow (w.heap.size + 2) 3 1 (.slice (some ⟨g, 0, none⟩) (abU ws at_ b (at_ + 1 + j)).length cap) (abU ws at_ b (at_ + 1 + j)).length ((abU ws at_ b (at_ + 1 + j)).map vNat) ∧
        Has wr (w.heap.size + 1) 100 (bools (marks ws b (abU ws at_ b (at_ + 1 + j)))) ∧ Below w.heap.size w wr)
      (fun _ i _ => n - (intOf i).toNat)
    case atStart => exact ⟨0, g1, cap1, by omega, rfl, by rw [Nat.add_zero, abU_start]; rfl, by rw [Nat.add_zero, abU_start]; exact hown1, by rw [Nat.add_zero, abU_start]; exact hhm, hW3⟩
    case round =>
      clear hown1 hhm hW3 k3
      obtain ⟨j, g, cap, hj, rfl, rfl, hown, hhm, hW⟩ := hrel
      have HO := Lib.hid hown; clear hown
      have hz : w.heap.size + 1 < wr.heap.size := hhm.lt
      have hne := hhm.ne_own HO.out (by decide)
      have hg := (HO.out.lt g rfl)
      have HM := Lib.hid hhm; clear hhm
      generalize hLL : abU ws at_ b (at_ + 1 + j) = L at *
      have HLL := Lib.hid hLL; clear hLL
      have hLlen : L.length ≤ at_ + 1 + j := by rw [← HLL.out]; exact abU_len ws at_ b _ (by omega)
      by_cases hlt : at_ + 1 + j < n
      · obtain ⟨y, hy⟩ := get_of_lt (l := ws) (k := at_ + 1 + j) (by rw [HL.out]; exact hlt)
        obtain ⟨ba2, o2, hA2, hb2, d1, d2, d3⟩ := (HW.out.below hW (Nat.le_refl _)) _ y hy
        injection hA2 with hA2; injection hA2 with hA2 hA3; subst hA2; subst hA3
        obtain ⟨hy0, hy1⟩ := HR.out y (mem_of_get hy)
        obtain ⟨ya, hya⟩ := Int.eq_ofNat_of_zero_le hy0
        have hya22 : ya ≤ 22 := by omega
        have HAt := Lib.hid ((atOf_get hy).trans hya)
        have HS := Lib.hid (abU_succ ws at_ b (at_ + 1 + j) (by omega))
        have HT := Lib.hid (tch_marks ws b L ya)
        clear hy
        have m0 := (HM.out.cell ya).trans (bools_get _ _ (by omega))
        have m1 := (HM.out.cell (ya + 1)).trans (bools_get _ _ (by omega))
        have r1 : wr.cell? ⟨ba, o + (at_ + 1) * 3 + j * 3, none⟩ = some (.int .i64 y.kind) := by rw [show o + (at_ + 1) * 3 + j * 3 = o + (at_ + 1 + j) * 3 by omega]; exact d1
        have r2 : wr.cell? ⟨ba, o + (at_ + 1) * 3 + j * 3 + 1, none⟩ = some (.int .i64 (ya : Int)) := by rw [show o + (at_ + 1) * 3 + j * 3 = o + (at_ + 1 + j) * 3 by omega, ← hya]; exact d2
        have r3 : wr.cell? ⟨ba, o + (at_ + 1) * 3 + j * 3 + 2, none⟩ = some (.string y.word) := by rw [show o + (at_ + 1) * 3 + j * 3 = o + (at_ + 1 + j) * 3 by omega]; exact d3
        clear d1 d2 d3 hya hy0 hy1
        have hjj : j < n - (at_ + 1) := by omega
        cases hm0 : marks ws b L ya with
        | true =>
          rw [hm0] at m0
          have HU : Hid (abU ws at_ b (at_ + 1 + (j + 1)) = L ++ [at_ + 1 + j]) := by
            show abU ws at_ b (at_ + 1 + (j + 1)) = L ++ [at_ + 1 + j]
            rw [← Nat.add_assoc, HS.out, HLL.out, HAt.out, HT.out, hm0]; rfl
          go_wp2_with fail
          refine (unReach y.kind ya (w.heap.size + 1) y.word 100 _ _ (HM.out.alloc _) (bools_len _) hya22).mono ?_
          rintro e w4 ⟨rfl, hh4, hb4⟩
          have ho4 := hb4.own (HO.out.alloc _) hne
          have hM4 : Has w4 (w.heap.size + 1) 100 (bools (marks ws b (L ++ [at_ + 1 + j]))) := by
            rw [bools_set] at hh4
            have e : bools (marks ws b (L ++ [at_ + 1 + j])) = bools (fun q => marks ws b L q || takes ya q) := by
              congr 1; funext q; rw [marks_app, HAt.out]
            rw [e]; exact hh4
          have hW4 : Below w.heap.size w w4 := (hW.alloc (by omega) _).trans (hb4.below (by omega) (by simp; omega))
          have hz4 := hM4.lt
          have HO4 := Lib.hid ho4; clear ho4 hh4
          have HM4 := Lib.hid hM4; clear hM4 hb4
          go_wp2_with (at_builtin; refine wpList_app rfl (.tmp 56) (.tmp 61) _ rfl (w.heap.size + 2) 3 (.int .i64 0) 1 8 Try.underlying29 infoInt rfl (by omega) (by omega) (.slice (some ⟨g, 0, none⟩) L.length cap) _ _ rfl (HO4.out.alloc _) w4.heap.size [.int .i64 ((at_ : Int) + 1 + (j : Int))] rfl rfl (news_new _ _ _) (one_int _ _) (by omega) (by simp; omega) ?_; intro g5 cap5 w5 hg5 hown5 hgrow5 hor5)
          go_roundw
          case rel =>
            refine ⟨j + 1, g5, cap5, by omega, by go_num, by rw [HU.out]; simp, ?_, ?_, ?_⟩
            · rw [HU.out]; simpa [vNat] using hown5
            · rw [HU.out]; exact (HM4.out.alloc _).same (hgrow5.block _ (by simp; omega) (fun e => hne e.symm))
            · exact (hW4.alloc (by omega) _).grown hgrow5 (by simp; omega) (fun k hk => by have := (HO4.out.lt k hk).1; omega)
          case measure => simp [intOf]; omega
        | false =>
          rw [hm0] at m0
          cases hm1 : marks ws b L (ya + 1) with
          | true =>
            rw [hm1] at m1
            have HU : Hid (abU ws at_ b (at_ + 1 + (j + 1)) = L ++ [at_ + 1 + j]) := by
              show abU ws at_ b (at_ + 1 + (j + 1)) = L ++ [at_ + 1 + j]
              rw [← Nat.add_assoc, HS.out, HLL.out, HAt.out, HT.out, hm0, hm1]; rfl
            go_wp2_with fail
            refine (unReach y.kind ya (w.heap.size + 1) y.word 100 _ _ (HM.out.alloc _) (bools_len _) hya22).mono ?_
            rintro e w4 ⟨rfl, hh4, hb4⟩
            have ho4 := hb4.own (HO.out.alloc _) hne
            have hM4 : Has w4 (w.heap.size + 1) 100 (bools (marks ws b (L ++ [at_ + 1 + j]))) := by
              rw [bools_set] at hh4
              have e : bools (marks ws b (L ++ [at_ + 1 + j])) = bools (fun q => marks ws b L q || takes ya q) := by
                congr 1; funext q; rw [marks_app, HAt.out]
              rw [e]; exact hh4
            have hW4 : Below w.heap.size w w4 := (hW.alloc (by omega) _).trans (hb4.below (by omega) (by simp; omega))
            have hz4 := hM4.lt
            have HO4 := Lib.hid ho4; clear ho4 hh4
            have HM4 := Lib.hid hM4; clear hM4 hb4
            go_wp2_with (at_builtin; refine wpList_app rfl (.tmp 56) (.tmp 61) _ rfl (w.heap.size + 2) 3 (.int .i64 0) 1 8 Try.underlying29 infoInt rfl (by omega) (by omega) (.slice (some ⟨g, 0, none⟩) L.length cap) _ _ rfl (HO4.out.alloc _) w4.heap.size [.int .i64 ((at_ : Int) + 1 + (j : Int))] rfl rfl (news_new _ _ _) (one_int _ _) (by omega) (by simp; omega) ?_; intro g5 cap5 w5 hg5 hown5 hgrow5 hor5)
            go_roundw
            case rel =>
              refine ⟨j + 1, g5, cap5, by omega, by go_num, by rw [HU.out]; simp, ?_, ?_, ?_⟩
              · rw [HU.out]; simpa [vNat] using hown5
              · rw [HU.out]; exact (HM4.out.alloc _).same (hgrow5.block _ (by simp; omega) (fun e => hne e.symm))
              · exact (hW4.alloc (by omega) _).grown hgrow5 (by simp; omega) (fun k hk => by have := (HO4.out.lt k hk).1; omega)
            case measure => simp [intOf]; omega
          | false =>
            rw [hm1] at m1
            have HU : Hid (abU ws at_ b (at_ + 1 + (j + 1)) = L) := by
              show abU ws at_ b (at_ + 1 + (j + 1)) = L
              rw [← Nat.add_assoc, HS.out, HLL.out, HAt.out, HT.out, hm0, hm1]; rfl
            go_wp2
            go_roundw
            case rel =>
              refine ⟨j + 1, g, cap, by omega, by go_num, by rw [HU.out], ?_, ?_, ?_⟩
              · rw [HU.out]; exact HO.out.alloc _
              · rw [HU.out]; exact HM.out.alloc _
              · exact hW.alloc (by omega) _
            case measure => simp [intOf]; omega
      · have hjn : at_ + 1 + j = n := by omega
        have HJ := Lib.hid hjn; clear hjn
        go_wp2
        go_ret
        have hcaps := own_caps HO.out
        rw [← HJ.out, HLL.out]
        refine ⟨_, _, _, rfl, ?_, by rw [List.length_map], hcaps.1, hcaps.2, hW⟩
        exact own_rd1 (f := vInt) (xs := L.map (fun (k : Nat) => (k : Int))) (by rw [List.map_map]; exact HO.out)
end Go.Proofs.Ytnjenggijmbhcaa
/-
  Contract of undo.Above: what must be undone, or an error.
-/
namespace Go.Proofs.Ytnjenggijmbhcaa
open Go.RowKit
set_option maxRecDepth 100000 in
set_option maxHeartbeats 1000000 in
theorem AboveUn (p at_ k a : Int) (s : ByteArray) (A : Option Addr) (n c : Nat) (ws : List Wk) (w : World) (hn : n ≤ 9223372036854775807) (hnc : n ≤ c) (hcm : c ≤ 9223372036854775807) (hw : RdW w w.heap.size A ws) (hl : ws.length = n)
    (hs : ∀ x ∈ ws, x.word.size ≤ 9223372036854775807) (hs2 : s.size ≤ 9223372036854775807) :
    Calls Try.prog 13 #[.agg #[.int .i64 p, .slice A n c], .int .i64 at_, .agg #[.int .i64 k, .int .i64 a, .string s]] w (RetIE (abvL p ws at_ ⟨k, a, s⟩) (askE p ws at_ ⟨k, a, s⟩) w) := by
  have HW := Lib.hid hw; clear hw
  have HL := Lib.hid hl; clear hl
  have HS := Lib.hid hs; clear hs
  have C := Lib.hid (fun (W : World) (hw : RdW W W.heap.size A ws) => unCheck p at_ k a s A n c w.heap.size ws W hn hw HL.out HS.out hs2)
  by_cases h0 : askE p ws at_ ⟨k, a, s⟩ = 0
  · have HA : Hid (abvL p ws at_ ⟨k, a, s⟩ = (abU ws at_.toNat a n).map (fun (k : Nat) => (k : Int))) := by
      show abvL p ws at_ ⟨k, a, s⟩ = (abU ws at_.toNat a n).map (fun (k : Nat) => (k : Int))
      unfold abvL; rw [if_pos h0, HL.out]
    obtain ⟨z1, z2, z3, z4⟩ := askE_zero h0
    have v1 := schk_zero z1
    have v2 := schk_zero z4
    have b1 := valid_at v2 ⟨k, a, s⟩ (by simp)
    have H0 := Lib.hid h0
    clear h0 z1 z4
    rw [HL.out] at z3
    obtain ⟨m, rfl⟩ := Int.eq_ofNat_of_zero_le z2
    obtain ⟨b, rfl⟩ := Int.eq_ofNat_of_zero_le b1.1
    have b2 : (b : Int) ≤ 22 := b1.2
    rw [Int.toNat_natCast] at HA
    have D := Lib.hid (fun (W : World) (hw : RdW W W.heap.size A ws) => unAbove k s A b n c m w.heap.size ws W hw HL.out (by omega) (by have := v1.len; rw [HL.out] at this; exact this) hnc hcm (by omega) (valid_at v1))
    rw [HA.out, H0.out]
    clear v1 v2 b1 z2 z3
    go_enter Try.func13, Try.ntmps13
    go_wp2_with fail
    refine (C.out _ (HW.out.up (by go_grown)) (by simp; omega) (by go_simp) (by go_simp)).mono ?_
    rintro e w1 ⟨rfl, hb1⟩
    rw [H0.out]
    have hw1 := Lib.hid (HW.out.up (bvia (by go_grown) hb1))
    have d1 : w1.cell? ⟨w.heap.size, 1, none⟩ = some (.slice A n c) := by rw [hb1.cell (by simp; omega)]; go_simp
    have e0 : w1.cell? ⟨w.heap.size + 1, 0, none⟩ = some (.int .i64 k) := by rw [hb1.cell (by simp)]; go_simp
    have e1 : w1.cell? ⟨w.heap.size + 1, 1, none⟩ = some (.int .i64 (b : Int)) := by rw [hb1.cell (by simp)]; go_simp
    have e2 : w1.cell? ⟨w.heap.size + 1, 2, none⟩ = some (.string s) := by rw [hb1.cell (by simp)]; go_simp
    have hz := hb1.size
    simp at hz
    go_wp2_with fail
    refine (D.out _ hw1.out (by omega) d1).mono ?_
    rintro e w2 ⟨A2, n2, c2, rfl, r1, r2, r3, r4, r5⟩
    have R1 := Lib.hid r1; clear r1
    have R2 := Lib.hid r2; clear r2
    go_wp2
    go_ret2
    exact ⟨_, _, _, rfl, R1.out, R2.out, r3, r4, bvia (bvia (by go_grown) hb1) r5⟩
  · have HA : Hid (abvL p ws at_ ⟨k, a, s⟩ = []) := by
      show abvL p ws at_ ⟨k, a, s⟩ = []
      unfold abvL; rw [if_neg h0]
    have h3' : (askE p ws at_ ⟨k, a, s⟩ != 0) = true := by simpa using h0
    have h3'' : (askE p ws at_ ⟨k, a, s⟩ == 0) = false := by simpa using h0
    clear h0
    rw [HA.out]
    generalize askE p ws at_ ⟨k, a, s⟩ = q at *
    go_enter Try.func13, Try.ntmps13
    go_wp2_with fail
    refine (C.out _ (HW.out.up (by go_grown)) (by simp; omega) (by go_simp) (by go_simp)).mono ?_
    rintro e w1 ⟨rfl, hb1⟩
    obtain ⟨hc, hf⟩ := bcell hb1
    go_wp2
    go_ret2
    exact ⟨_, _, _, rfl, Rd1.nil _ _ _ _, rfl, Nat.zero_le _, by omega, bvia (by go_grown) hb1⟩
end Go.Proofs.Ytnjenggijmbhcaa
