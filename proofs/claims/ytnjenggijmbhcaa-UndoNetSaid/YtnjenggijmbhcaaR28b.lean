/-
  Contract of torchonref28.above: what must be undone.
-/
import Derived.Test.YtnjenggijmbhcaaOwn
import Derived.Test.YtnjenggijmbhcaaR28
namespace Go.Proofs.Ytnjenggijmbhcaa
open Go.RowKit
def atOf (ws : List Wk) (k : Nat) : Int := match ws[k]? with | some x => x.at_ | none => 0
theorem atOf_get {ws : List Wk} {k : Nat} {x : Wk} (h : ws[k]? = some x) : atOf ws k = x.at_ := by unfold atOf; rw [h]
/-- a work in place a touches the work in place b, or one of a list -/
def tch (ws : List Wk) (b : Int) (l : List Nat) (a : Int) : Bool := touch a b || l.any fun k => touch a (atOf ws k)
def abTo (ws : List Wk) (at_ : Nat) (b : Int) : Nat → List Nat
  | 0 => [at_]
  | m + 1 => if tch ws b (abTo ws at_ b m) (atOf ws (at_ + 1 + m)) then abTo ws at_ b m ++ [at_ + 1 + m] else abTo ws at_ b m
theorem abTo_lt (ws : List Wk) (at_ : Nat) (b : Int) (m : Nat) : ∀ k ∈ abTo ws at_ b m, k < at_ + 1 + m := by
  induction m with
  | zero => intro k hk; simp [abTo] at hk; omega
  | succ m ih =>
    intro k hk
    unfold abTo at hk
    split at hk
    · rcases List.mem_append.1 hk with hk | hk
      · have := ih k hk; omega
      · simp at hk; omega
    · have := ih k hk; omega
theorem abTo_len (ws : List Wk) (at_ : Nat) (b : Int) (m : Nat) : (abTo ws at_ b m).length ≤ m + 1 := by
  induction m with
  | zero => simp [abTo]
  | succ m ih => unfold abTo; split <;> (try simp) <;> omega
theorem abTo_pos (ws : List Wk) (at_ : Nat) (b : Int) (m : Nat) : 0 < (abTo ws at_ b m).length := by
  induction m with
  | zero => simp [abTo]
  | succ m ih => unfold abTo; split <;> (try simp) <;> omega
def abU (ws : List Wk) (at_ : Nat) (b : Int) (j : Nat) : List Nat := abTo ws at_ b (j - (at_ + 1))
theorem abU_start (ws : List Wk) (at_ : Nat) (b : Int) : abU ws at_ b (at_ + 1) = [at_] := by unfold abU; rw [Nat.sub_self]; rfl
theorem abU_succ (ws : List Wk) (at_ : Nat) (b : Int) (j : Nat) (h : at_ + 1 ≤ j) : abU ws at_ b (j + 1) = if tch ws b (abU ws at_ b j) (atOf ws j) then abU ws at_ b j ++ [j] else abU ws at_ b j := by
  unfold abU
  rw [show j + 1 - (at_ + 1) = j - (at_ + 1) + 1 by omega]
  conv => lhs; unfold abTo
  rw [show at_ + 1 + (j - (at_ + 1)) = j by omega]
theorem abU_lt (ws : List Wk) (at_ : Nat) (b : Int) (j : Nat) (h : at_ + 1 ≤ j) : ∀ k ∈ abU ws at_ b j, k < j := fun k hk => by
  have := abTo_lt ws at_ b _ k hk; omega
theorem abU_len (ws : List Wk) (at_ : Nat) (b : Int) (j : Nat) (h : at_ + 1 ≤ j) : (abU ws at_ b j).length ≤ j := by
  have := abTo_len ws at_ b (j - (at_ + 1)); unfold abU; omega
theorem abU_pos (ws : List Wk) (at_ : Nat) (b : Int) (j : Nat) : 0 < (abU ws at_ b j).length := abTo_pos _ _ _ _
def tchTo (ws : List Wk) (b : Int) (l : List Nat) (a : Int) (k : Nat) : Bool := tch ws b (l.take k) a
theorem tchTo_succ {ws : List Wk} {b : Int} {l : List Nat} {a : Int} {k y : Nat} (h : l[k]? = some y) : tchTo ws b l a (k + 1) = (tchTo ws b l a k || touch a (atOf ws y)) := by
  unfold tchTo tch
  rw [List.take_add_one, h]
  simp [Bool.or_assoc]
theorem tchTo_all {ws : List Wk} {b : Int} {l : List Nat} {a : Int} {k : Nat} (h : l.length ≤ k) : tchTo ws b l a k = tch ws b l a := by
  unfold tchTo; rw [List.take_of_length_le h]
set_option maxRecDepth 100000 in
set_option maxHeartbeats 1000000 in
theorem above28 (p k b : Int) (s : ByteArray) (A : Option Addr) (n c at_ : Nat) (ws : List Wk) (w : World) (hw : RdW w w.heap.size A ws) (hl : ws.length = n)
    (hat : at_ < n) (hn : n ≤ 400) (hb0 : 0 ≤ b) (hb1 : b ≤ 22) (hr : ∀ x ∈ ws, 0 ≤ x.at_ ∧ x.at_ ≤ 22) :
    Calls Try.prog 39 #[.agg #[.int .i64 p, .slice A n c], .int .i64 at_, .agg #[.int .i64 k, .int .i64 b, .string s]] w (RetI ((abU ws at_ b n).map (fun (k : Nat) => (k : Int))) w) := by
  have HW := Lib.hid hw; clear hw
  have HL := Lib.hid hl; clear hl
  have HR := Lib.hid hr; clear hr
  go_enter Try.func39, Try.ntmps39
  go_wp2
  have hown := own_lit1 (base := w.heap.size + 2) (e := 3) (w := (w.alloc (.cells #[.int .i64 p, .slice A n c] 24)).alloc (.cells #[.int .i64 k, .int .i64 b, .string s] 26)) (vNat at_) (by go_size)
  simp only [World.size_alloc] at hown
  go_loopw [7, 8] (fun v i wr => ∃ (j g cap : Nat), at_ + 1 ≤ j ∧ j ≤ n ∧ i = .int .i64 (j : Int) ∧ v = .slice (some ⟨g, 0, none⟩) (abU ws at_ b j).length cap ∧
      wr.ownsRow (w.heap.size + 2) 3 1 (.slice (some ⟨g, 0, none⟩) (abU ws at_ b j).length cap) (abU ws at_ b j).length ((abU ws at_ b j).map vNat) ∧
      Below (w.heap.size + 2) ((w.alloc (.cells #[.int .i64 p, .slice A n c] 24)).alloc (.cells #[.int .i64 k, .int .i64 b, .string s] 26)) wr)
    (fun _ i _ => n - (intOf i).toNat)
  case atStart => exact ⟨at_ + 1, w.heap.size + 2, 1, by omega, by omega, by go_num, by rw [abU_start]; rfl, by rw [abU_start]; exact hown, by go_grown⟩
  case round =>
    clear hown
    obtain ⟨j, g, cap, hj0, hj, rfl, rfl, hown, hbw⟩ := hrel
    have hW : Below w.heap.size w wr := Below.trans (by go_grown) (hbw.mono (by omega))
    have d0 : wr.cell? ⟨w.heap.size, 1, none⟩ = some (.slice A n c) := by rw [hbw.cell (by simp)]; go_simp
    have d1 : wr.cell? ⟨w.heap.size + 1, 0, none⟩ = some (.int .i64 k) := by rw [hbw.cell (by simp)]; go_simp
    have d2 : wr.cell? ⟨w.heap.size + 1, 1, none⟩ = some (.int .i64 b) := by rw [hbw.cell (by simp)]; go_simp
    have d3 : wr.cell? ⟨w.heap.size + 1, 2, none⟩ = some (.string s) := by rw [hbw.cell (by simp)]; go_simp
    have hz : w.heap.size + 1 < wr.heap.size := by have := hbw.size; simp at this; omega
    have hz0 : w.heap.size < wr.heap.size := by omega
    obtain ⟨wo, rfl⟩ : ∃ wo : World, wo = wr := ⟨_, rfl⟩
    have HO := Lib.hid hown; clear hown
    have HB := Lib.hid hbw; clear hbw
    generalize hLL : abU ws at_ b j = L at *
    have HLL := Lib.hid hLL; clear hLL
    have hLlen : L.length ≤ j := by rw [← HLL.out]; exact abU_len ws at_ b j hj0
    have HLt : Hid (∀ k ∈ L, k < j) := by rw [← HLL.out]; exact abU_lt ws at_ b j hj0
    by_cases hlt : j < n
    · obtain ⟨x, hx⟩ := get_of_lt (l := ws) (k := j) (by rw [HL.out]; exact hlt)
      obtain ⟨ba, o, rfl, hb, c1, c2, c3⟩ := (HW.out.below hW (Nat.le_of_lt hz0)) _ x hx
      obtain ⟨hx0, hx1⟩ := HR.out x (mem_of_get hx)
      have HX := Lib.hid hx; clear hx
      go_wp2
      have hxc := fun (x : Ext wo) => x.cell
      refine wp_region_ext (by kernel_rfl) (by kernel_rfl) ?_
      repeat (go_big_quiet_step ((go_at_call 20; exact ext_call (touch04 _ _ _ _ _ _ _ (by omega) (by omega) (by omega) (by omega)))))
      refine wpQuiet_nil ?_
      intro _ hw'
      obtain ⟨⟨w1, hb1⟩, rfl⟩ := hw'
      clear hxc
      go_wp2
      go_loopw [9, 10] (fun t q wr => ∃ y : Nat, y ≤ L.length ∧ q = .int .i64 (y : Int) ∧ t = .bool (tchTo ws b L x.at_ y) ∧ Below wo.heap.size wo wr) (fun _ q _ => L.length - (intOf q).toNat)
      case atStart => exact ⟨0, Nat.zero_le _, rfl, by simp [tchTo, tch], hb1⟩
      case round =>
        clear hb1
        obtain ⟨y, hy, rfl, rfl, hb1⟩ := hrel
        by_cases hlty : y < L.length
        · obtain ⟨u, hu⟩ := get_of_lt hlty
          have hult := HLt.out u (mem_of_get hu)
          obtain ⟨z, hz'⟩ := get_of_lt (l := ws) (k := u) (by rw [HL.out]; omega)
          obtain ⟨ba2, o2, hA2, hb2, e1, e2, e3⟩ := (HW.out.below hW (Nat.le_of_lt hz0)) _ z hz'
          injection hA2 with hA2; injection hA2 with hA2 hA3; subst hA2; subst hA3
          obtain ⟨hz0', hz1'⟩ := HR.out z (mem_of_get hz')
          have HS := Lib.hid (tchTo_succ (ws := ws) (b := b) (a := x.at_) hu)
          have HAt := Lib.hid (atOf_get hz'); clear hz'
          obtain ⟨g', hg1, hg2, hg3, hg4⟩ := own_at HO.out (j := y) (u := vNat u) (by rw [List.getElem?_map, hu]; rfl)
          injection hg1 with hg1; injection hg1 with hg1; subst hg1
          clear hu
          obtain ⟨hc, hf⟩ := bcell hb1
          have k0 : wr.cell? ⟨w.heap.size, 1, none⟩ = some (.slice (some ⟨ba, o, none⟩) n c) := by rw [hc _ _ hz0]; exact d0
          have k1 : wr.cell? ⟨ba, o + j * 3, none⟩ = some (.int .i64 x.kind) := by rw [hc _ _ hb]; exact c1
          have k2 : wr.cell? ⟨ba, o + j * 3 + 1, none⟩ = some (.int .i64 x.at_) := by rw [hc _ _ hb]; exact c2
          have k3 : wr.cell? ⟨ba, o + j * 3 + 2, none⟩ = some (.string x.word) := by rw [hc _ _ hb]; exact c3
          have k4 : wr.cell? ⟨ba, o + u * 3, none⟩ = some (.int .i64 z.kind) := by rw [hc _ _ hb]; exact e1
          have k5 : wr.cell? ⟨ba, o + u * 3 + 1, none⟩ = some (.int .i64 z.at_) := by rw [hc _ _ hb]; exact e2
          have k6 : wr.cell? ⟨ba, o + u * 3 + 2, none⟩ = some (.string z.word) := by rw [hc _ _ hb]; exact e3
          have k7 : wr.cell? ⟨g, y, none⟩ = some (.int .i64 (u : Int)) := by rw [hc _ _ hg3]; exact hg4
          have q1 : w.heap.size < wr.heap.size := by have := hb1.size; omega
          have q2 : ba < wr.heap.size := by have := hb1.size; omega
          have q3 : g < wr.heap.size := by have := hb1.size; omega
          clear hc hf
          cases htt : tchTo ws b L x.at_ y with
          | true =>
            have HT := Lib.hid htt; clear htt
            go_wp2
            refine wp_region_ext (by kernel_rfl) (by kernel_rfl) ?_
            repeat (go_big_quiet_step (fail))
            refine wpQuiet_nil ?_
            intro _ hw'
            obtain ⟨⟨w2, hb2'⟩, rfl⟩ := hw'
            go_wp2
            go_roundw
            case rel => exact ⟨y + 1, by omega, by go_num, by rw [HS.out, HT.out, Bool.true_or], bvia hb1 hb2'⟩
            case measure => simp [intOf]; omega
          | false =>
            have HT := Lib.hid htt; clear htt
            go_wp2
            have hxc := fun (x : Ext wr) => x.cell
            refine wp_region_ext (by kernel_rfl) (by kernel_rfl) ?_
            repeat (go_big_quiet_step ((go_at_call 20; exact ext_call (touch04 _ _ _ _ _ _ _ (by omega) (by omega) (by omega) (by omega)))))
            refine wpQuiet_nil ?_
            intro _ hw'
            obtain ⟨⟨w2, hb2'⟩, rfl⟩ := hw'
            clear hxc
            go_wp2
            go_roundw
            case rel => exact ⟨y + 1, by omega, by go_num, by rw [HS.out, HT.out, Bool.false_or, HAt.out], bvia hb1 hb2'⟩
            case measure => simp [intOf]; omega
        · have HT := Lib.hid (tchTo_all (ws := ws) (b := b) (l := L) (a := x.at_) (k := y) (by omega))
          have HS := Lib.hid (abU_succ ws at_ b j hj0)
          have HAt := Lib.hid (atOf_get HX.out)
          cases htt : tchTo ws b L x.at_ y with
          | true =>
            have HU : Hid (abU ws at_ b (j + 1) = L ++ [j]) := by
              show abU ws at_ b (j + 1) = L ++ [j]
              rw [HS.out, HLL.out, HAt.out, ← HT.out, htt, if_pos rfl]
            clear htt
            have hob := own_below HO.out hb1
            have HOB := Lib.hid hob; clear hob
            have hgl := (HO.out.lt g rfl)
            have hwz := hb1.size
            go_wp2_with (at_builtin; refine wpList_app rfl (.tmp 53) (.tmp 55) _ rfl (w.heap.size + 2) 3 (.int .i64 0) 1 8 Try.underlying29 infoInt rfl (by omega) (by omega) _ _ _ rfl (HOB.out.alloc _) wr.heap.size [vNat j] rfl rfl (news_new _ _ _) (one_int _ _) (by omega) (by simp; omega) ?_; intro g1 cap1 w2 hg1 hown1 hgrow1 hor1)
            go_roundw
            case rel =>
              refine ⟨j + 1, g1, cap1, by omega, by omega, by go_num, by rw [HU.out]; simp, ?_, ?_⟩
              · rw [HU.out]; simpa using hown1
              · exact ((bvia' HB.out (by simp) hb1).alloc (by omega) _).grown hgrow1 (by simp; omega) (fun k hk => (HOB.out.lt k hk).1)
            case measure => simp [intOf]; omega
          | false =>
            have HU : Hid (abU ws at_ b (j + 1) = L) := by
              show abU ws at_ b (j + 1) = L
              rw [HS.out, HLL.out, HAt.out, ← HT.out, htt]; rfl
            clear htt
            have hob := own_below HO.out hb1
            have HOB := Lib.hid hob; clear hob
            go_wp2
            go_roundw
            case rel => exact ⟨j + 1, g, cap, by omega, by omega, by go_num, by rw [HU.out], by rw [HU.out]; exact HOB.out, bvia' HB.out (by simp) hb1⟩
            case measure => simp [intOf]; omega
    · obtain rfl : j = n := by omega
      go_wp2
      go_ret
      have hcaps := own_caps HO.out
      refine ⟨_, _, _, rfl, ?_, by rw [List.length_map, HLL.out], hcaps.1, hcaps.2, hW⟩
      have := own_rd1 (f := vInt) (xs := L.map (fun (k : Nat) => (k : Int))) (by rw [List.map_map]; exact HO.out)
      rw [HLL.out]; exact this
/-- the error of a sheet, a work and another one -/
def askE (p : Int) (ws : List Wk) (at_ : Int) (x : Wk) : Int :=
  if schk p ws ≠ 0 then schk p ws else if at_ < 0 ∨ (ws.length : Int) ≤ at_ then 7 else if schk p [x] ≠ 0 then 2 else 0
theorem askE_zero {p : Int} {ws : List Wk} {at_ : Int} {x : Wk} (h : askE p ws at_ x = 0) : schk p ws = 0 ∧ 0 ≤ at_ ∧ at_ < ws.length ∧ schk p [x] = 0 := by
  unfold askE at h
  split at h
  · omega
  · split at h
    · omega
    · split at h
      · omega
      · omega
/-- what must be undone, or nothing -/
def abvL (p : Int) (ws : List Wk) (at_ : Int) (x : Wk) : List Int := if askE p ws at_ x = 0 then (abU ws at_.toNat x.at_ ws.length).map (fun (k : Nat) => (k : Int)) else []
theorem valid_at {p : Int} {ws : List Wk} (h : SOk p ws) : ∀ x ∈ ws, 0 ≤ x.at_ ∧ x.at_ ≤ 22 := fun x hx => by
  obtain ⟨_, h1, h2, _⟩ := bad_at (h.good x hx)
  have := h.le
  omega
set_option maxRecDepth 100000 in
set_option maxHeartbeats 1000000 in
theorem Above28 (p at_ k a : Int) (s : ByteArray) (A : Option Addr) (n c : Nat) (ws : List Wk) (w : World) (hn : n ≤ 9223372036854775807) (hw : RdW w w.heap.size A ws) (hl : ws.length = n)
    (hs : ∀ x ∈ ws, x.word.size ≤ 9223372036854775807) (hs2 : s.size ≤ 9223372036854775807) :
    Calls Try.prog 14 #[.agg #[.int .i64 p, .slice A n c], .int .i64 at_, .agg #[.int .i64 k, .int .i64 a, .string s]] w (RetIE (abvL p ws at_ ⟨k, a, s⟩) (askE p ws at_ ⟨k, a, s⟩) w) := by
  have C := fun (w : World) (hw : RdW w w.heap.size A ws) => asked28 p at_ k a s A n c ws w hn hw hl hs hs2
  rw [← hl] at C
  have C' := Lib.hid (show ∀ (w : World) (hw : RdW w w.heap.size A ws), Calls Try.prog 38 #[.agg #[.int .i64 p, .slice A n c], .int .i64 at_, .agg #[.int .i64 k, .int .i64 a, .string s]] w fun e w' => e = .returned (.int .i64 (askE p ws at_ ⟨k, a, s⟩)) ∧ Below w.heap.size w w' by rw [← hl]; exact C)
  clear C
  have HW := Lib.hid hw; clear hw
  have HL := Lib.hid hl; clear hl
  have HS := Lib.hid hs; clear hs
  by_cases h0 : askE p ws at_ ⟨k, a, s⟩ = 0
  · have HA : Hid (abvL p ws at_ ⟨k, a, s⟩ = (abU ws at_.toNat a n).map (fun (k : Nat) => (k : Int))) := by
      show abvL p ws at_ ⟨k, a, s⟩ = (abU ws at_.toNat a n).map (fun (k : Nat) => (k : Int))
      unfold abvL; rw [if_pos h0, HL.out]
    obtain ⟨z1, z2, z3, z4⟩ := askE_zero h0
    have v1 := schk_zero z1
    have v2 := schk_zero z4
    have b1 := valid_at v2 ⟨k, a, s⟩ (by simp)
    have H0 := Lib.hid h0
    clear h0 z1 z4
    rw [HL.out] at z3
    obtain ⟨m, rfl⟩ := Int.eq_ofNat_of_zero_le z2
    rw [Int.toNat_natCast] at HA
    have D := Lib.hid (fun (w : World) (hw : RdW w w.heap.size A ws) => above28 p k a s A n c m ws w hw HL.out (by omega) (by have := v1.len; rw [HL.out] at this; exact this) b1.1 b1.2 (valid_at v1))
    rw [HA.out, H0.out]
    clear v1 v2 b1 z2 z3
    go_enter Try.func14, Try.ntmps14
    go_wp2_with fail
    refine (C'.out _ (HW.out.up (by go_grown))).mono ?_
    rintro e w1 ⟨rfl, hb1⟩
    rw [H0.out]
    obtain ⟨hc, hf⟩ := bcell hb1
    have hw1 := Lib.hid (HW.out.up (bvia (by go_grown) hb1))
    go_wp2_with fail
    refine (D.out _ hw1.out).mono ?_
    rintro e w2 ⟨A2, n2, c2, rfl, r1, r2, r3, r4, r5⟩
    have R1 := Lib.hid r1; clear r1
    have R2 := Lib.hid r2; clear r2
    go_wp2
    go_ret2
    exact ⟨_, _, _, rfl, R1.out, R2.out, r3, r4, bvia (bvia (by go_grown) hb1) r5⟩
  · have HA : Hid (abvL p ws at_ ⟨k, a, s⟩ = []) := by
      show abvL p ws at_ ⟨k, a, s⟩ = []
      unfold abvL; rw [if_neg h0]
    have h3' : (askE p ws at_ ⟨k, a, s⟩ != 0) = true := by simpa using h0
    have h3'' : (askE p ws at_ ⟨k, a, s⟩ == 0) = false := by simpa using h0
    clear h0
    rw [HA.out]
    generalize askE p ws at_ ⟨k, a, s⟩ = q at *
    go_enter Try.func14, Try.ntmps14
    go_wp2_with fail
    refine (C'.out _ (HW.out.up (by go_grown))).mono ?_
    rintro e w1 ⟨rfl, hb1⟩
    obtain ⟨hc, hf⟩ := bcell hb1
    go_wp2
    go_ret2
    exact ⟨_, _, _, rfl, Rd1.nil _ _ _ _, rfl, Nat.zero_le _, by omega, bvia (by go_grown) hb1⟩
end Go.Proofs.Ytnjenggijmbhcaa
