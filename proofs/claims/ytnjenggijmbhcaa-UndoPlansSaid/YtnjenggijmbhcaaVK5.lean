/-
  Contract of torchonref28.above: what must be undone.
-/
import Derived.Test.YtnjenggijmbhcaaVK2
import Derived.Test.YtnjenggijmbhcaaVK4
namespace Go.Proofs.Ytnjenggijmbhcaa
open Go.RowKit
def atOf (ws : List Wk) (k : Nat) : Int := match ws[k]? with | some x => x.at_ | none => 0
theorem atOf_get {ws : List Wk} {k : Nat} {x : Wk} (h : ws[k]? = some x) : atOf ws k = x.at_ := by unfold atOf; rw [h]
/-- a work in place a touches the work in place b, or one of a list -/
def tch (ws : List Wk) (b : Int) (l : List Nat) (a : Int) : Bool := touch a b || l.any fun k => touch a (atOf ws k)
def abTo (ws : List Wk) (at_ : Nat) (b : Int) : Nat → List Nat
  | 0 => [at_]
  | m + 1 => if tch ws b (abTo ws at_ b m) (atOf ws (at_ + 1 + m)) then abTo ws at_ b m ++ [at_ + 1 + m] else abTo ws at_ b m
theorem abTo_lt (ws : List Wk) (at_ : Nat) (b : Int) (m : Nat) : ∀ k ∈ abTo ws at_ b m, k < at_ + 1 + m := by
  induction m with
  | zero => intro k hk; simp [abTo] at hk; omega
  | succ m ih =>
    intro k hk
    unfold abTo at hk
    split at hk
    · rcases List.mem_append.1 hk with hk | hk
      · have := ih k hk; omega
      · simp at hk; omega
    · have := ih k hk; omega
theorem abTo_len (ws : List Wk) (at_ : Nat) (b : Int) (m : Nat) : (abTo ws at_ b m).length ≤ m + 1 := by
  induction m with
  | zero => simp [abTo]
  | succ m ih => unfold abTo; split <;> (try simp) <;> omega
theorem abTo_pos (ws : List Wk) (at_ : Nat) (b : Int) (m : Nat) : 0 < (abTo ws at_ b m).length := by
  induction m with
  | zero => simp [abTo]
  | succ m ih => unfold abTo; split <;> (try simp) <;> omega
def abU (ws : List Wk) (at_ : Nat) (b : Int) (j : Nat) : List Nat := abTo ws at_ b (j - (at_ + 1))
theorem abU_start (ws : List Wk) (at_ : Nat) (b : Int) : abU ws at_ b (at_ + 1) = [at_] := by unfold abU; rw [Nat.sub_self]; rfl
theorem abU_succ (ws : List Wk) (at_ : Nat) (b : Int) (j : Nat) (h : at_ + 1 ≤ j) : abU ws at_ b (j + 1) = if tch ws b (abU ws at_ b j) (atOf ws j) then abU ws at_ b j ++ [j] else abU ws at_ b j := by
  unfold abU
  rw [show j + 1 - (at_ + 1) = j - (at_ + 1) + 1 by omega]
  conv => lhs; unfold abTo
  rw [show at_ + 1 + (j - (at_ + 1)) = j by omega]
theorem abU_lt (ws : List Wk) (at_ : Nat) (b : Int) (j : Nat) (h : at_ + 1 ≤ j) : ∀ k ∈ abU ws at_ b j, k < j := fun k hk => by
  have := abTo_lt ws at_ b _ k hk; omega
theorem abU_len (ws : List Wk) (at_ : Nat) (b : Int) (j : Nat) (h : at_ + 1 ≤ j) : (abU ws at_ b j).length ≤ j := by
  have := abTo_len ws at_ b (j - (at_ + 1)); unfold abU; omega
theorem abU_pos (ws : List Wk) (at_ : Nat) (b : Int) (j : Nat) : 0 < (abU ws at_ b j).length := abTo_pos _ _ _ _
def tchTo (ws : List Wk) (b : Int) (l : List Nat) (a : Int) (k : Nat) : Bool := tch ws b (l.take k) a
theorem tchTo_succ {ws : List Wk} {b : Int} {l : List Nat} {a : Int} {k y : Nat} (h : l[k]? = some y) : tchTo ws b l a (k + 1) = (tchTo ws b l a k || touch a (atOf ws y)) := by
  unfold tchTo tch
  rw [List.take_add_one, h]
  simp [Bool.or_assoc]
theorem tchTo_all {ws : List Wk} {b : Int} {l : List Nat} {a : Int} {k : Nat} (h : l.length ≤ k) : tchTo ws b l a k = tch ws b l a := by
  unfold tchTo; rw [List.take_of_length_le h]
set_option maxRecDepth 100000 in
set_option maxHeartbeats 1000000 in
theorem above28 (p k b : Int) (s : ByteArray) (A : Option Addr) (n c at_ : Nat) (ws : List Wk) (w : World) (hw : RdW w w.heap.size A ws) (hl : ws.length = n)
    (hat : at_ < n) (hn : n ≤ 400) (hb0 : 0 ≤ b) (hb1 : b ≤ 22) (hr : ∀ x ∈ ws, 0 ≤ x.at_ ∧ x.at_ ≤ 22) :
    Calls Try.prog 39 #[.agg #[.int .i64 p, .slice A n c], .int .i64 at_, .agg #[.int .i64 k, .int .i64 b, .string s]] w (RetI ((abU ws at_ b n).map (fun (k : Nat) => (k : Int))) w) := by
  have HW := Lib.hid hw; clear hw
  have HL := Lib.hid hl; clear hl
  have HR := Lib.hid hr; clear hr
  go_enter Try.func39, Try.ntmps39
  go_wp2
  have hown := own_lit1 (base := w.heap.size + 2) (e := 3) (w := (w.alloc (.cells #[.int .i64 p, .slice A n c] 24)).alloc (.cells #[.int .i64 k, .int .i64 b, .string s] 26)) (vNat at_) (by go_size)
  simp only [World.size_alloc] at hown
  go_loopw [7, 8] (fun v i wr => ∃ (j g cap : Nat), at_ + 1 ≤ j ∧ j ≤ n ∧ i = .int .i64 (j : Int) ∧ v = .slice (some ⟨g, 0, none⟩) (abU ws at_ b j).length cap ∧
      wr.ownsRow (w.heap.size + 2) 3 1 (.slice (some ⟨g, 0, none⟩) (abU ws at_ b j).length cap) (abU ws at_ b j).length ((abU ws at_ b j).map vNat) ∧
      Below (w.heap.size + 2) ((w.alloc (.cells #[.int .i64 p, .slice A n c] 24)).alloc (.cells #[.int .i64 k, .int .i64 b, .string s] 26)) wr)
    (fun _ i _ => n - (intOf i).toNat)
  case atStart => exact ⟨at_ + 1, w.heap.size + 2, 1, by omega, by omega, by go_num, by rw [abU_start]; rfl, by rw [abU_start]; exact hown, by go_grown⟩
  case round =>
    clear hown
    obtain ⟨j, g, cap, hj0, hj, rfl, rfl, hown, hbw⟩ := hrel
    have hW : Below w.heap.size w wr := Below.trans (by go_grown) (hbw.mono (by omega))
    have d0 : wr.cell? ⟨w.heap.size, 1, none⟩ = some (.slice A n c) := by rw [hbw.cell (by simp)]; go_simp
    have d1 : wr.cell? ⟨w.heap.size + 1, 0, none⟩ = some (.int .i64 k) := by rw [hbw.cell (by simp)]; go_simp
    have d2 : wr.cell? ⟨w.heap.size + 1, 1, none⟩ = some (.int .i64 b) := by rw [hbw.cell (by simp)]; go_simp
    have d3 : wr.cell? ⟨w.heap.size + 1, 2, none⟩ = some (.string s) := by rw [hbw.cell (by simp)]; go_simp
    have hz : w.heap.size + 1 < wr.heap.size := by have := hbw.size; simp at this; omega
    have hz0 : w.heap.size < wr.heap.size := by omega
    obtain ⟨wo, rfl⟩ : ∃ wo : World, wo = wr := ⟨_, rfl⟩
    have HO := Lib.hid hown; clear hown
    have HB := Lib.hid hbw; clear hbw
    generalize hLL : abU ws at_ b j = L at *
    have HLL := Lib.hid hLL; clear hLL
    have hLlen : L.length ≤ j := by rw [← HLL.out]; exact abU_len ws at_ b j hj0
    have HLt : Hid (∀ k ∈ L, k < j) := by rw [← HLL.out]; exact abU_lt ws at_ b j hj0
    by_cases hlt : j < n
    · obtain ⟨x, hx⟩ := get_of_lt (l := ws) (k := j) (by rw [HL.out]; exact hlt)
      obtain ⟨ba, o, rfl, hb, c1, c2, c3⟩ := (HW.out.below hW (Nat.le_of_lt hz0)) _ x hx
      obtain ⟨hx0, hx1⟩ := HR.out x (mem_of_get hx)
      have HX := Lib.hid hx; clear hx
      go_wp2
      have hxc := fun (x : Ext wo) => x.cell
      refine wp_region_ext (by kernel_rfl) (by kernel_rfl) ?_
      repeat (go_big_quiet_step ((go_at_call 20; exact ext_call (touch04 _ _ _ _ _ _ _ (by omega) (by omega) (by omega) (by omega)))))
      refine wpQuiet_nil ?_
      intro _ hw'
      obtain ⟨⟨w1, hb1⟩, rfl⟩ := hw'
      clear hxc
      go_wp2
      go_loopw [9, 10] (fun t q wr => ∃ y : Nat, y ≤ L.length ∧ q = .int .i64 (y : Int) ∧ t = .bool (tchTo ws b L x.at_ y) ∧ Below wo.heap.size wo wr) (fun _ q _ => L.length - (intOf q).toNat)
      case atStart => exact ⟨0, Nat.zero_le _, rfl, by simp [tchTo, tch], hb1⟩
      case round =>
        clear hb1
        obtain ⟨y, hy, rfl, rfl, hb1⟩ := hrel
        by_cases hlty : y < L.length
        · obtain ⟨u, hu⟩ := get_of_lt hlty
          have hult := HLt.out u (mem_of_get hu)
          obtain ⟨z, hz'⟩ := get_of_lt (l := ws) (k := u) (by rw [HL.out]; omega)
          obtain ⟨ba2, o2, hA2, hb2, e1, e2, e3⟩ := (HW.out.below hW (Nat.le_of_lt hz0)) _ z hz'
          injection hA2 with hA2; injection hA2 with hA2 hA3; subst hA2; subst hA3
          obtain ⟨hz0', hz1'⟩ := HR.out z (mem_of_get hz')
          have HS := Lib.hid (tchTo_succ (ws := ws) (b := b) (a := x.at_) hu)
          have HAt := Lib.hid (atOf_get hz'); clear hz'
          obtain ⟨g', hg1, hg2, hg3, hg4⟩ := own_at HO.out (j := y) (u := vNat u) (by rw [List.getElem?_map, hu]; rfl)
          injection hg1 with hg1; injection hg1 with hg1; subst hg1
          clear hu
          obtain ⟨hc, hf⟩ := bcell hb1
          have k0 : wr.cell? ⟨w.heap.size, 1, none⟩ = some (.slice (some ⟨ba, o, none⟩) n c) := by rw [hc _ _ hz0]; exact d0
          have k1 : wr.cell? ⟨ba, o + j * 3, none⟩ = some (.int .i64 x.kind) := by rw [hc _ _ hb]; exact c1
          have k2 : wr.cell? ⟨ba, o + j * 3 + 1, none⟩ = some (.int .i64 x.at_) := by rw [hc _ _ hb]; exact c2
          have k3 : wr.cell? ⟨ba, o + j * 3 + 2, none⟩ = some (.string x.word) := by rw [hc _ _ hb]; exact c3
          have k4 : wr.cell? ⟨ba, o + u * 3, none⟩ = some (.int .i64 z.kind) := by rw [hc _ _ hb]; exact e1
          have k5 : wr.cell? ⟨ba, o + u * 3 + 1, none⟩ = some (.int .i64 z.at_) := by rw [hc _ _ hb]; exact e2
          have k6 : wr.cell? ⟨ba, o + u * 3 + 2, none⟩ = some (.string z.word) := by rw [hc _ _ hb]; exact e3
          have k7 : wr.cell? ⟨g, y, none⟩ = some (.int .i64 (u : Int)) := by rw [hc _ _ hg3]; exact hg4
          have q1 : w.heap.size < wr.heap.size := by have := hb1.size; omega
          have q2 : ba < wr.heap.size := by have := hb1.size; omega
          have q3 : g < wr.heap.size := by have := hb1.size; omega
          clear hc hf
          cases htt : tchTo ws b L x.at_ y with
          | true =>
            have HT := Lib.hid htt; clear htt
            go_wp2
            refine wp_region_ext (by kernel_rfl) (by kernel_rfl) ?_
            repeat (go_big_quiet_step (fail))
            refine wpQuiet_nil ?_
            intro _ hw'
            obtain ⟨⟨w2, hb2'⟩, rfl⟩ := hw'
            go_wp2
            go_roundw
            case rel => exact ⟨y + 1, by omega, by go_num, by rw [HS.out, HT.out, Bool.true_or], bvia hb1 hb2'⟩
            case measure => simp [intOf]; omega
          | false =>
            have HT := Lib.hid htt; clear htt
            go_wp2
            have hxc := fun (x : Ext wr) => x.cell
            refine wp_region_ext (by kernel_rfl) (by kernel_rfl) ?_
            repeat (go_big_quiet_step ((go_at_call 20; exact ext_call (touch04 _ _ _ _ _ _ _ (by omega) (by omega) (by omega) (by omega)))))
            refine wpQuiet_nil ?_
            intro _ hw'
            obtain ⟨⟨w2, hb2'⟩, rfl⟩ := hw'
            clear hxc
            go_wp2
            go_roundw
            case rel => exact ⟨y + 1, by omega, by go_num, by rw [HS.out, HT.out, Bool.false_or, HAt.out], bvia hb1 hb2'⟩
            case measure => simp [intOf]; omega
        · have HT := Lib.hid (tchTo_all (ws := ws) (b := b) (l := L) (a := x.at_) (k := y) (by omega))
          have HS := Lib.hid (abU_succ ws at_ b j hj0)
          have HAt := Lib.hid (atOf_get HX.out)
          cases htt : tchTo ws b L x.at_ y with
          | true =>
            have HU : Hid (abU ws at_ b (j + 1) = L ++ [j]) := by
              show abU ws at_ b (j + 1) = L ++ [j]
              rw [HS.out, HLL.out, HAt.out, ← HT.out, htt, if_pos rfl]
            clear htt
            have hob := own_below HO.out hb1
            have HOB := Lib.hid hob; clear hob
            have hgl := (HO.out.lt g rfl)
            have hwz := hb1.size
            go_wp2_with (at_builtin; refine wpList_app rfl (.tmp 53) (.tmp 55) _ rfl (w.heap.size + 2) 3 (.int .i64 0) 1 8 Try.underlying29 infoInt rfl (by omega) (by omega) _ _ _ rfl (HOB.out.alloc _) wr.heap.size [vNat j] rfl rfl (news_new _ _ _) (one_int _ _) (by omega) (by simp; omega) ?_; intro g1 cap1 w2 hg1 hown1 hgrow1 hor1)
            go_roundw
            case rel =>
              refine ⟨j + 1, g1, cap1, by omega, by omega, by go_num, by rw [HU.out]; simp, ?_, ?_⟩
              · rw [HU.out]; simpa using hown1
              · exact ((bvia' HB.out (by simp) hb1).alloc (by omega) _).grown hgrow1 (by simp; omega) (fun k hk => (HOB.out.lt k hk).1)
            case measure => simp [intOf]; omega
          | false =>
            have HU : Hid (abU ws at_ b (j + 1) = L) := by
              show abU ws at_ b (j + 1) = L
              rw [HS.out, HLL.out, HAt.out, ← HT.out, htt]; rfl
            clear htt
            have hob := own_below HO.out hb1
            have HOB := Lib.hid hob; clear hob
            go_wp2
            go_roundw
            case rel => exact ⟨j + 1, g, cap, by omega, by omega, by go_num, by rw [HU.out], by rw [HU.out]; exact HOB.out, bvia' HB.out (by simp) hb1⟩
            case measure => simp [intOf]; omega
    · obtain rfl : j = n := by omega
      go_wp2
      go_ret
      have hcaps := own_caps HO.out
      refine ⟨_, _, _, rfl, ?_, by rw [List.length_map, HLL.out], hcaps.1, hcaps.2, hW⟩
      have := own_rd1 (f := vInt) (xs := L.map (fun (k : Nat) => (k : Int))) (by rw [List.map_map]; exact HO.out)
      rw [HLL.out]; exact this
/-- the error of a sheet, a work and another one -/
def askE (p : Int) (ws : List Wk) (at_ : Int) (x : Wk) : Int :=
  if schk p ws ≠ 0 then schk p ws else if at_ < 0 ∨ (ws.length : Int) ≤ at_ then 7 else if schk p [x] ≠ 0 then 2 else 0
theorem askE_zero {p : Int} {ws : List Wk} {at_ : Int} {x : Wk} (h : askE p ws at_ x = 0) : schk p ws = 0 ∧ 0 ≤ at_ ∧ at_ < ws.length ∧ schk p [x] = 0 := by
  unfold askE at h
  split at h
  · omega
  · split at h
    · omega
    · split at h
      · omega
      · omega
/-- what must be undone, or nothing -/
def abvL (p : Int) (ws : List Wk) (at_ : Int) (x : Wk) : List Int := if askE p ws at_ x = 0 then (abU ws at_.toNat x.at_ ws.length).map (fun (k : Nat) => (k : Int)) else []
theorem valid_at {p : Int} {ws : List Wk} (h : SOk p ws) : ∀ x ∈ ws, 0 ≤ x.at_ ∧ x.at_ ≤ 22 := fun x hx => by
  obtain ⟨_, h1, h2, _⟩ := bad_at (h.good x hx)
  have := h.le
  omega
set_option maxRecDepth 100000 in
set_option maxHeartbeats 1000000 in
theorem Above28 (p at_ k a : Int) (s : ByteArray) (A : Option Addr) (n c : Nat) (ws : List Wk) (w : World) (hn : n ≤ 9223372036854775807) (hw : RdW w w.heap.size A ws) (hl : ws.length = n)
    (hs : ∀ x ∈ ws, x.word.size ≤ 9223372036854775807) (hs2 : s.size ≤ 9223372036854775807) :
    Calls Try.prog 14 #[.agg #[.int .i64 p, .slice A n c], .int .i64 at_, .agg #[.int .i64 k, .int .i64 a, .string s]] w (RetIE (abvL p ws at_ ⟨k, a, s⟩) (askE p ws at_ ⟨k, a, s⟩) w) := by
  have C := fun (w : World) (hw : RdW w w.heap.size A ws) => asked28 p at_ k a s A n c ws w hn hw hl hs hs2
  rw [← hl] at C
  have C' := Lib.hid (show ∀ (w : World) (hw : RdW w w.heap.size A ws), Calls Try.prog 38 #[.agg #[.int .i64 p, .slice A n c], .int .i64 at_, .agg #[.int .i64 k, .int .i64 a, .string s]] w fun e w' => e = .returned (.int .i64 (askE p ws at_ ⟨k, a, s⟩)) ∧ Below w.heap.size w w' by rw [← hl]; exact C)
  clear C
  have HW := Lib.hid hw; clear hw
  have HL := Lib.hid hl; clear hl
  have HS := Lib.hid hs; clear hs
  by_cases h0 : askE p ws at_ ⟨k, a, s⟩ = 0
  · have HA : Hid (abvL p ws at_ ⟨k, a, s⟩ = (abU ws at_.toNat a n).map (fun (k : Nat) => (k : Int))) := by
      show abvL p ws at_ ⟨k, a, s⟩ = (abU ws at_.toNat a n).map (fun (k : Nat) => (k : Int))
      unfold abvL; rw [if_pos h0, HL.out]
    obtain ⟨z1, z2, z3, z4⟩ := askE_zero h0
    have v1 := schk_zero z1
    have v2 := schk_zero z4
    have b1 := valid_at v2 ⟨k, a, s⟩ (by simp)
    have H0 := Lib.hid h0
    clear h0 z1 z4
    rw [HL.out] at z3
    obtain ⟨m, rfl⟩ := Int.eq_ofNat_of_zero_le z2
    rw [Int.toNat_natCast] at HA
    have D := Lib.hid (fun (w : World) (hw : RdW w w.heap.size A ws) => above28 p k a s A n c m ws w hw HL.out (by omega) (by have := v1.len; rw [HL.out] at this; exact this) b1.1 b1.2 (valid_at v1))
    rw [HA.out, H0.out]
    clear v1 v2 b1 z2 z3
    go_enter Try.func14, Try.ntmps14
    go_wp2_with fail
    refine (C'.out _ (HW.out.up (by go_grown))).mono ?_
    rintro e w1 ⟨rfl, hb1⟩
    rw [H0.out]
    obtain ⟨hc, hf⟩ := bcell hb1
    have hw1 := Lib.hid (HW.out.up (bvia (by go_grown) hb1))
    go_wp2_with fail
    refine (D.out _ hw1.out).mono ?_
    rintro e w2 ⟨A2, n2, c2, rfl, r1, r2, r3, r4, r5⟩
    have R1 := Lib.hid r1; clear r1
    have R2 := Lib.hid r2; clear r2
    go_wp2
    go_ret2
    exact ⟨_, _, _, rfl, R1.out, R2.out, r3, r4, bvia (bvia (by go_grown) hb1) r5⟩
  · have HA : Hid (abvL p ws at_ ⟨k, a, s⟩ = []) := by
      show abvL p ws at_ ⟨k, a, s⟩ = []
      unfold abvL; rw [if_neg h0]
    have h3' : (askE p ws at_ ⟨k, a, s⟩ != 0) = true := by simpa using h0
    have h3'' : (askE p ws at_ ⟨k, a, s⟩ == 0) = false := by simpa using h0
    clear h0
    rw [HA.out]
    generalize askE p ws at_ ⟨k, a, s⟩ = q at *
    go_enter Try.func14, Try.ntmps14
    go_wp2_with fail
    refine (C'.out _ (HW.out.up (by go_grown))).mono ?_
    rintro e w1 ⟨rfl, hb1⟩
    obtain ⟨hc, hf⟩ := bcell hb1
    go_wp2
    go_ret2
    exact ⟨_, _, _, rfl, Rd1.nil _ _ _ _, rfl, Nat.zero_le _, by omega, bvia (by go_grown) hb1⟩
end Go.Proofs.Ytnjenggijmbhcaa
/-
  The net of a list of works, as the document defines it: plain definitions and lemmas.
-/
namespace Go.Proofs.Ytnjenggijmbhcaa
open Go.RowKit
def wat (l : List Wk) (k : Nat) : Int := match l[k]? with | some x => x.at_ | none => 0
theorem wat_get {l : List Wk} {k : Nat} {x : Wk} (h : l[k]? = some x) : wat l k = x.at_ := by unfold wat; rw [h]
/-- the last of the first m works that touches the place a; -1: none -/
def lastPos (l : List Wk) (a : Int) : Nat → Int
  | 0 => -1
  | m + 1 => if touch (wat l m) a then m else lastPos l a m
theorem lastPos_lt (l : List Wk) (a : Int) (m : Nat) : -1 ≤ lastPos l a m ∧ lastPos l a m < m := by
  induction m with
  | zero => simp [lastPos]
  | succ m ih => unfold lastPos; split <;> omega
/-- a work in place a takes place q -/
def takes (a : Int) (q : Nat) : Bool := (q : Int) == a || (q : Int) == a + 1
theorem touch_takes (a : Nat) (b : Int) : touch a b = (takes b a || takes b (a + 1)) := by
  unfold touch takes
  rw [Bool.eq_iff_iff]
  simp only [Bool.and_eq_true, decide_eq_true_eq, Bool.or_eq_true, beq_iff_eq]
  omega
def undoW (x : Wk) : Wk := ⟨x.kind, x.at_, invW x.word⟩
def netStep (l : List Wk) (x : Wk) : List Wk :=
  if 0 ≤ lastPos l x.at_ l.length ∧ l[(lastPos l x.at_ l.length).toNat]? = some (undoW x) then l.eraseIdx (lastPos l x.at_ l.length).toNat else l ++ [x]
def netTo (ws : List Wk) (k : Nat) : List Wk := (ws.take k).foldl netStep []
theorem netTo_zero (ws : List Wk) : netTo ws 0 = [] := rfl
theorem netTo_succ {ws : List Wk} {k : Nat} {x : Wk} (h : ws[k]? = some x) : netTo ws (k + 1) = netStep (netTo ws k) x := by
  unfold netTo
  rw [List.take_add_one, h, List.foldl_append]
  rfl
theorem netTo_all (ws : List Wk) (k : Nat) (h : ws.length ≤ k) : netTo ws k = netTo ws ws.length := by
  unfold netTo; rw [List.take_of_length_le h, List.take_of_length_le (Nat.le_refl _)]
def netL (ws : List Wk) : List Wk := netTo ws ws.length
theorem netStep_len (l : List Wk) (x : Wk) : (netStep l x).length ≤ l.length + 1 := by
  unfold netStep
  split
  · rw [List.length_eraseIdx]; split <;> omega
  · simp
theorem netStep_mem {l : List Wk} {x y : Wk} (h : y ∈ netStep l x) : y ∈ l ∨ y = x := by
  unfold netStep at h
  split at h
  · exact .inl (List.mem_of_mem_eraseIdx h)
  · simpa using h
theorem netTo_len (ws : List Wk) (k : Nat) : (netTo ws k).length ≤ k := by
  induction k with
  | zero => simp [netTo]
  | succ k ih =>
    rcases Nat.lt_or_ge k ws.length with h | h
    · obtain ⟨x, hx⟩ := get_of_lt h
      rw [netTo_succ hx]
      have := netStep_len (netTo ws k) x
      omega
    · rw [netTo_all ws (k + 1) (by omega), ← netTo_all ws k h]; omega
theorem netTo_mem {ws : List Wk} {k : Nat} {y : Wk} (h : y ∈ netTo ws k) : y ∈ ws := by
  induction k with
  | zero => simp [netTo] at h
  | succ k ih =>
    rcases Nat.lt_or_ge k ws.length with hk | hk
    · obtain ⟨x, hx⟩ := get_of_lt hk
      rw [netTo_succ hx] at h
      rcases netStep_mem h with h | h
      · exact ih h
      · rw [h]; exact mem_of_get hx
    · rw [netTo_all ws (k + 1) (by omega), ← netTo_all ws k hk] at h; exact ih h
end Go.Proofs.Ytnjenggijmbhcaa
/-
  Plain law of nets: what two orders of the same lace have in common (what lies in each two neighbouring places), and that the net keeps to it. No program in sight.
-/
namespace Go.Proofs.Ytnjenggijmbhcaa
theorem snocRec {α : Type} {motive : List α → Prop} (nil : motive []) (append_singleton : ∀ (l : List α) (x : α), motive l → motive (l ++ [x])) (l : List α) : motive l := by
  have h : ∀ r : List α, motive r.reverse := fun r => by
    induction r with
    | nil => exact nil
    | cons x r ih => rw [List.reverse_cons]; exact append_singleton _ _ ih
  have := h l.reverse
  rwa [List.reverse_reverse] at this
theorem touch_symm (a b : Int) : touch a b = touch b a := by
  unfold touch; rw [Bool.and_comm]
theorem touch_self (a : Int) : touch a a = true := by unfold touch; simp
theorem undoW_at (x : Wk) : (undoW x).at_ = x.at_ := rfl
/-- the works in the places i and i + 1 -/
def atp (i : Int) (x : Wk) : Bool := x.at_ == i || x.at_ == i + 1
theorem atp_touch {i : Int} {x y : Wk} (hx : atp i x = true) (hy : atp i y = true) : touch x.at_ y.at_ = true := by
  unfold atp at hx hy; unfold touch
  simp only [Bool.or_eq_true, beq_iff_eq, Bool.and_eq_true, decide_eq_true_eq] at *
  omega
theorem touch_atp {x y : Wk} (h : touch x.at_ y.at_ = true) : atp (y.at_ - 1) x = true ∨ atp y.at_ x = true := by
  unfold atp; unfold touch at h
  simp only [Bool.or_eq_true, beq_iff_eq, Bool.and_eq_true, decide_eq_true_eq] at *
  omega
theorem atp_self (x : Wk) : atp x.at_ x = true := by unfold atp; simp
theorem atp_self' (x : Wk) : atp (x.at_ - 1) x = true := by unfold atp; simp
theorem atp_iff (i : Int) (x : Wk) : atp i x = true ↔ i = x.at_ - 1 ∨ i = x.at_ := by
  unfold atp; simp only [Bool.or_eq_true, beq_iff_eq]; omega
def proj (i : Int) (l : List Wk) : List Wk := l.filter (atp i)
/-- the same lace: the same works in the same order in each two neighbouring places -/
def Alike (u v : List Wk) : Prop := ∀ i, proj i u = proj i v
theorem Alike.refl (u : List Wk) : Alike u u := fun _ => rfl
theorem Alike.symm {u v : List Wk} (h : Alike u v) : Alike v u := fun i => (h i).symm
theorem Alike.trans {u v x : List Wk} (h : Alike u v) (k : Alike v x) : Alike u x := fun i => (h i).trans (k i)
theorem proj_app (i : Int) (u v : List Wk) : proj i (u ++ v) = proj i u ++ proj i v := by simp [proj]
theorem proj_cons (i : Int) (x : Wk) (v : List Wk) : proj i (x :: v) = if atp i x then x :: proj i v else proj i v := by simp [proj, List.filter_cons]
theorem Alike.app {u v x y : List Wk} (h : Alike u v) (k : Alike x y) : Alike (u ++ x) (v ++ y) := fun i => by rw [proj_app, proj_app, h i, k i]
/-- free of whatever touches x -/
def Free (l : List Wk) (a : Int) : Prop := ∀ z ∈ l, touch z.at_ a = false
theorem proj_free {l : List Wk} {x : Wk} (h : Free l x.at_) {i : Int} (hi : atp i x = true) : proj i l = [] := by
  unfold proj
  rw [List.filter_eq_nil_iff]
  intro z hz hz'
  have := atp_touch hz' hi
  rw [h z hz] at this; cases this
theorem free_swap {l : List Wk} {x : Wk} (h : Free l x.at_) : Alike (l ++ [x]) (x :: l) := fun i => by
  rw [proj_app, proj_cons, proj_cons]
  cases hi : atp i x with
  | true => rw [proj_free h hi]; simp [proj]
  | false => simp [proj]
theorem swap2 {u v : Wk} (h : touch u.at_ v.at_ = false) : Alike [u, v] [v, u] :=
  free_swap (l := [u]) (x := v) (fun z hz => by simp at hz; subst hz; exact h)
theorem alike_nil {l : List Wk} (h : Alike l []) : l = [] := by
  cases l with
  | nil => rfl
  | cons x l =>
    have := h x.at_
    rw [proj_cons, if_pos (atp_self x)] at this
    cases this
/-! ### a step of the net -/
theorem lastPos_app (l : List Wk) (z : List Wk) (a : Int) : ∀ m, m ≤ l.length → lastPos (l ++ z) a m = lastPos l a m
  | 0, _ => rfl
  | m + 1, h => by
    unfold lastPos
    rw [lastPos_app l z a m (by omega)]
    have : wat (l ++ z) m = wat l m := by unfold wat; rw [List.getElem?_append_left (by omega)]
    rw [this]
theorem last_split (a : Int) (l : List Wk) : (Free l a ∧ lastPos l a l.length = -1) ∨ ∃ l1 z l2, l = l1 ++ z :: l2 ∧ touch z.at_ a = true ∧ Free l2 a ∧ lastPos l a l.length = l1.length := by
  induction l using snocRec with
  | nil => exact .inl ⟨fun z hz => by simp at hz, rfl⟩
  | append_singleton l x ih =>
    have hw : wat (l ++ [x]) l.length = x.at_ := wat_get (by simp)
    have hl : lastPos (l ++ [x]) a (l ++ [x]).length = if touch x.at_ a then (l.length : Int) else lastPos l a l.length := by
      rw [List.length_append, List.length_singleton]
      show (if touch (wat (l ++ [x]) l.length) a then (l.length : Int) else lastPos (l ++ [x]) a l.length) = _
      rw [hw, lastPos_app _ _ _ _ (Nat.le_refl _)]
    cases hx : touch x.at_ a with
    | true =>
      refine .inr ⟨l, x, [], by simp, hx, fun z hz => by simp at hz, ?_⟩
      rw [hl, if_pos hx]
    | false =>
      rw [hx] at hl
      rcases ih with ⟨h1, h2⟩ | ⟨l1, z, l2, h1, h2, h3, h4⟩
      · refine .inl ⟨fun z hz => ?_, by rw [hl]; simpa using h2⟩
        rcases List.mem_append.1 hz with hz | hz
        · exact h1 z hz
        · simp at hz; subst hz; exact hx
      · refine .inr ⟨l1, z, l2 ++ [x], by rw [h1]; simp, h2, fun y hy => ?_, by rw [hl]; simpa using h4⟩
        rcases List.mem_append.1 hy with hy | hy
        · exact h3 y hy
        · simp at hy; subst hy; exact hx
/-- x finds its undoing last -/
def canc (l : List Wk) (x : Wk) : Prop := (l.filter (fun z => touch z.at_ x.at_)).getLast? = some (undoW x)
theorem filter_free {l : List Wk} {a : Int} (h : Free l a) : l.filter (fun z => touch z.at_ a) = [] := by
  rw [List.filter_eq_nil_iff]; intro z hz hz'; rw [h z hz] at hz'; cases hz'
theorem canc_split {l1 l2 : List Wk} {z x : Wk} (ht : touch z.at_ x.at_ = true) (h : Free l2 x.at_) : canc (l1 ++ z :: l2) x ↔ z = undoW x := by
  unfold canc
  rw [List.filter_append, List.filter_cons, if_pos ht, filter_free h]
  simp
theorem canc_free {l : List Wk} {x : Wk} (h : Free l x.at_) : ¬ canc l x := by
  unfold canc; rw [filter_free h]; simp
/-- what a step does -/
theorem step_split (l : List Wk) (x : Wk) : (¬ canc l x ∧ netStep l x = l ++ [x]) ∨ ∃ l1 l2, l = l1 ++ undoW x :: l2 ∧ Free l2 x.at_ ∧ canc l x ∧ netStep l x = l1 ++ l2 := by
  rcases last_split x.at_ l with ⟨h1, h2⟩ | ⟨l1, z, l2, h1, h2, h3, h4⟩
  · refine .inl ⟨canc_free h1, ?_⟩
    unfold netStep; rw [h2, if_neg (by simp)]
  · have hget : l[l1.length]? = some z := by rw [h1]; simp
    by_cases hz : z = undoW x
    · subst hz
      refine .inr ⟨l1, l2, h1, h3, by rw [h1]; exact (canc_split h2 h3).2 rfl, ?_⟩
      unfold netStep; rw [h4, if_pos ⟨by omega, by simpa using hget⟩]
      rw [h1]
      simp [List.eraseIdx_append_of_length_le]
    · refine .inl ⟨by rw [h1]; exact fun h => hz ((canc_split h2 h3).1 h), ?_⟩
      unfold netStep; rw [h4, if_neg]
      rintro ⟨_, h⟩
      rw [show ((l1.length : Int)).toNat = l1.length by simp, hget] at h
      injection h with h; exact hz h
/-- the same step, on what lies in each two neighbouring places -/
def fcanc (F : Int → List Wk) (x : Wk) : Prop := (F (x.at_ - 1)).getLast? = some (undoW x) ∧ (F x.at_).getLast? = some (undoW x)
open Classical in
noncomputable def fstep (F : Int → List Wk) (x : Wk) : Int → List Wk := fun i =>
  if atp i x then (if fcanc F x then (F i).dropLast else F i ++ [x]) else F i
theorem fcanc_proj (l : List Wk) (x : Wk) : fcanc (fun i => proj i l) x ↔ canc l x := by
  rcases last_split x.at_ l with ⟨h1, _⟩ | ⟨l1, z, l2, h1, h2, h3, _⟩
  · refine ⟨fun h => ?_, fun h => (canc_free h1 h).elim⟩
    have := h.2
    simp only [proj_free h1 (atp_self x)] at this; cases this
  · subst h1
    rw [canc_split h2 h3]
    have e1 : proj (x.at_ - 1) l2 = [] := proj_free h3 (atp_self' x)
    have e2 : proj x.at_ l2 = [] := proj_free h3 (atp_self x)
    constructor
    · rintro ⟨c1, c2⟩
      simp only [proj_app, proj_cons, e1, e2] at c1 c2
      rcases touch_atp h2 with h | h
      · rw [if_pos h] at c1; simpa using c1
      · rw [if_pos h] at c2; simpa using c2
    · rintro rfl
      refine ⟨?_, ?_⟩
      · simp only [proj_app, proj_cons, e1]
        rw [if_pos (show atp (x.at_ - 1) (undoW x) = true from atp_self' x)]; simp
      · simp only [proj_app, proj_cons, e2]
        rw [if_pos (show atp x.at_ (undoW x) = true from atp_self x)]; simp
theorem proj_step (l : List Wk) (x : Wk) : (fun i => proj i (netStep l x)) = fstep (fun i => proj i l) x := by
  funext i
  unfold fstep
  rcases step_split l x with ⟨h1, h2⟩ | ⟨l1, l2, h1, h2, h3, h4⟩
  · rw [if_neg (fun h => h1 ((fcanc_proj l x).1 h)), h2, proj_app, proj_cons]
    split <;> simp [proj]
  · rw [if_pos ((fcanc_proj l x).2 h3), h4, h1]
    have ha : atp i (undoW x) = atp i x := rfl
    simp only [proj_app, proj_cons, ha]
    cases hi : atp i x with
    | true => simp [proj_free h2 hi]
    | false => simp
theorem alike_step {u v : List Wk} (h : Alike u v) (x : Wk) : Alike (netStep u x) (netStep v x) := fun i => by
  have e : (fun i => proj i u) = (fun i => proj i v) := funext h
  have := congrFun ((proj_step u x).trans ((congrArg (fun F => fstep F x) e).trans (proj_step v x).symm)) i
  exact this
open Classical in
theorem fstep_comm {F : Int → List Wk} {u v : Wk} (h : touch u.at_ v.at_ = false) : fstep (fstep F u) v = fstep (fstep F v) u := by
  have no : ∀ i, atp i u = true → atp i v = true → False := fun i hu hv => by
    have := atp_touch hu hv; rw [h] at this; cases this
  have c1 : fcanc (fstep F u) v ↔ fcanc F v := by
    unfold fcanc fstep
    rw [if_neg (fun h => no _ h (atp_self' v)), if_neg (fun h => no _ h (atp_self v))]
  have c2 : fcanc (fstep F v) u ↔ fcanc F u := by
    unfold fcanc fstep
    rw [if_neg (fun h => no _ (atp_self' u) h), if_neg (fun h => no _ (atp_self u) h)]
  funext i
  show (if atp i v then (if fcanc (fstep F u) v then (fstep F u i).dropLast else fstep F u i ++ [v]) else fstep F u i) = (if atp i u then (if fcanc (fstep F v) u then (fstep F v i).dropLast else fstep F v i ++ [u]) else fstep F v i)
  simp only [c1, c2]
  unfold fstep
  cases hu : atp i u with
  | true =>
    cases hv : atp i v with
    | true => exact (no i hu hv).elim
    | false => simp
  | false => cases hv : atp i v <;> simp
theorem step_comm (l : List Wk) {u v : Wk} (h : touch u.at_ v.at_ = false) : Alike (netStep (netStep l u) v) (netStep (netStep l v) u) := fun i => by
  have := congrFun ((proj_step (netStep l u) v).trans (((congrArg (fun F => fstep F v) (proj_step l u)).trans (fstep_comm h)).trans ((congrArg (fun F => fstep F u) (proj_step l v)).symm.trans (proj_step (netStep l v) u).symm))) i
  exact this
/-! ### lists without a work that finds its undoing -/
def Red (l : List Wk) : Prop := ∀ l1 y l2, l = l1 ++ y :: l2 → ¬ canc l1 y
theorem red_nil : Red [] := fun l1 y l2 h => by simp at h
theorem red_app {l : List Wk} {x : Wk} (h : Red l) (hx : ¬ canc l x) : Red (l ++ [x]) := fun l1 y l2 e => by
  rcases List.append_eq_append_iff.1 e with ⟨a', h1, h2⟩ | ⟨c', h1, h2⟩
  · cases a' with
    | nil => simp at h1 h2; rw [h1, ← h2.1]; exact hx
    | cons b a' => simp at h2
  · cases c' with
    | nil => simp at h1 h2; rw [← h1, h2.1]; exact hx
    | cons b c' =>
      simp at h2
      rw [← h2.1] at h1
      exact h _ _ _ h1
theorem canc_drop {p q : List Wk} {u y : Wk} (h : touch u.at_ y.at_ = false) : canc (p ++ u :: q) y ↔ canc (p ++ q) y := by
  unfold canc
  simp [h]
theorem red_drop {p q : List Wk} {u : Wk} (h : Red (p ++ u :: q)) (hq : Free q u.at_) : Red (p ++ q) := fun l1 y l2 e => by
  rcases List.append_eq_append_iff.1 e with ⟨a', h1, h2⟩ | ⟨c', h1, h2⟩
  · rw [h1, ← canc_drop (u := u) (by rw [touch_symm]; exact hq y (by rw [h2]; simp))]
    exact h (p ++ u :: a') y l2 (by rw [h2]; simp)
  · cases c' with
    | nil =>
      simp at h1 h2
      have : canc (p ++ []) y ↔ _ := (canc_drop (p := p) (q := []) (u := u) (y := y) (by rw [touch_symm]; exact hq y (by rw [← h2]; simp))).symm
      rw [List.append_nil] at this
      rw [← h1, this]
      exact h (p ++ [u]) y l2 (by rw [← h2]; simp)
    | cons b c' =>
      simp at h2
      rw [← h2.1] at h1
      rw [h1] at h
      exact h l1 y (c' ++ u :: q) (by simp)
theorem red_step {l : List Wk} (h : Red l) (x : Wk) : Red (netStep l x) := by
  rcases step_split l x with ⟨h1, h2⟩ | ⟨l1, l2, h1, h2, _, h4⟩
  · rw [h2]; exact red_app h h1
  · rw [h4]; rw [h1] at h; exact red_drop h h2
theorem red_fold {l : List Wk} (h : Red l) (ws : List Wk) : Red (ws.foldl netStep l) := by
  induction ws generalizing l with
  | nil => exact h
  | cons x ws ih => exact ih (red_step h x)
theorem netL_fold (ws : List Wk) : netL ws = ws.foldl netStep [] := by unfold netL netTo; rw [List.take_length]
theorem netL_app (u v : List Wk) : netL (u ++ v) = v.foldl netStep (netL u) := by rw [netL_fold, netL_fold, List.foldl_append]
theorem red_net (ws : List Wk) : Red (netL ws) := by rw [netL_fold]; exact red_fold red_nil ws
theorem fold_red (ws : List Wk) (h : Red ws) : ws.foldl netStep [] = ws := by
  induction ws using snocRec with
  | nil => rfl
  | append_singleton l x ih =>
    have hl : Red l := fun l1 y l2 e => h l1 y (l2 ++ [x]) (by rw [e]; simp)
    rw [List.foldl_append, ih hl]
    show netStep l x = _
    rcases step_split l x with ⟨_, h2⟩ | ⟨l1, l2, _, _, h3, _⟩
    · exact h2
    · exact (h l x [] (by simp) h3).elim
/-- the net of a net is the net -/
theorem net_net (ws : List Wk) : netL (netL ws) = netL ws := by rw [netL_fold (netL ws)]; exact fold_red _ (red_net ws)
theorem alike_fold {u v : List Wk} (h : Alike u v) (ws : List Wk) : Alike (ws.foldl netStep u) (ws.foldl netStep v) := by
  induction ws generalizing u v with
  | nil => exact h
  | cons x ws ih => exact ih (alike_step h x)
/-- an exchange of works that do not touch -/
theorem net_swap (p q : List Wk) {u v : Wk} (h : touch u.at_ v.at_ = false) : Alike (netL (p ++ u :: v :: q)) (netL (p ++ v :: u :: q)) := by
  rw [netL_app, netL_app]
  exact alike_fold (step_comm _ h) q
theorem step_back {l : List Wk} (h : Red l) {x : Wk} (hx : undoW (undoW x) = x) : Alike (netStep (netStep l x) (undoW x)) l := by
  rcases step_split l x with ⟨h1, h2⟩ | ⟨l1, l2, h1, h2, _, h4⟩
  · rw [h2]
    have hf : Free ([] : List Wk) (undoW x).at_ := fun z hz => by simp at hz
    have c : canc (l ++ [x]) (undoW x) := (canc_split (l1 := l) (l2 := []) (z := x) (x := undoW x) (touch_self x.at_) hf).2 hx.symm
    rcases step_split (l ++ [x]) (undoW x) with ⟨k1, _⟩ | ⟨m1, m2, k1, k2, _, k4⟩
    · exact (k1 c).elim
    · rw [k4]
      rw [hx] at k1
      have : m2 = [] := by
        rcases List.eq_nil_or_concat m2 with e | ⟨r, y, e⟩
        · exact e
        · rw [e] at k1
          have e2 : l ++ [x] = (m1 ++ x :: r) ++ [y] := by rw [k1]; simp
          have e3 := (List.append_inj' e2 rfl).2
          simp at e3
          have := k2 y (by rw [e]; simp)
          rw [← e3] at this
          rw [undoW_at, touch_self] at this; cases this
      subst this
      have := (List.append_inj' k1 rfl).1
      rw [this]; simpa using Alike.refl m1
  · rw [h4]
    have nc : ¬ canc (l1 ++ l2) (undoW x) := by
      have := h l1 (undoW x) l2 h1
      unfold canc at this ⊢
      rw [List.filter_append, filter_free (show Free l2 (undoW x).at_ from h2), List.append_nil]
      exact this
    rcases step_split (l1 ++ l2) (undoW x) with ⟨_, k2⟩ | ⟨m1, m2, _, _, k3, _⟩
    · rw [k2, h1, List.append_assoc]
      exact (Alike.refl l1).app (free_swap h2)
    · exact (nc k3).elim
/-- a work with its undoing, put in anywhere -/
theorem net_pair (p q : List Wk) {x : Wk} (hx : undoW (undoW x) = x) : Alike (netL (p ++ x :: undoW x :: q)) (netL (p ++ q)) := by
  rw [netL_app, netL_app]
  exact alike_fold (step_back (red_net p) hx) q
/-- a sheet and all its undoings -/
theorem net_back (a : List Wk) (h : ∀ x ∈ a, undoW (undoW x) = x) : ∀ p q, Alike (netL (p ++ (a ++ ((a.map undoW).reverse ++ q)))) (netL (p ++ q)) := by
  induction a using snocRec with
  | nil => intro p q; simpa using Alike.refl _
  | append_singleton a x ih =>
    intro p q
    have e : p ++ ((a ++ [x]) ++ (((a ++ [x]).map undoW).reverse ++ q)) = (p ++ a) ++ x :: undoW x :: ((a.map undoW).reverse ++ q) := by simp
    rw [e]
    refine (net_pair _ _ (h x (by simp))).trans ?_
    rw [List.append_assoc]
    exact ih (fun y hy => h y (by simp [hy])) p q
theorem net_none (a : List Wk) (h : ∀ x ∈ a, undoW (undoW x) = x) : netL (a ++ (a.map undoW).reverse) = [] := by
  have := net_back a h [] []
  simp only [List.nil_append, List.append_nil] at this
  exact alike_nil this
theorem net_left (a b : List Wk) : netL (netL a ++ b) = netL (a ++ b) := by rw [netL_app, netL_app, net_net]
/-- a work moved to the left past what does not touch it -/
theorem net_move (p q r : List Wk) {x : Wk} (h : Free q x.at_) : Alike (netL (p ++ (q ++ x :: r))) (netL (p ++ x :: (q ++ r))) := by
  induction q using snocRec generalizing r with
  | nil => exact Alike.refl _
  | append_singleton q y ih =>
    have e : p ++ ((q ++ [y]) ++ x :: r) = (p ++ q) ++ y :: x :: r := by simp
    rw [e]
    refine (net_swap _ _ (h y (by simp))).trans ?_
    have := ih (y :: r) (fun z hz => h z (by simp [hz]))
    simpa using this
theorem net_right (a b : List Wk) (h : ∀ x ∈ b, undoW (undoW x) = x) : Alike (netL (a ++ netL b)) (netL (a ++ b)) := by
  induction b using snocRec with
  | nil => exact Alike.refl _
  | append_singleton b x ih =>
    have ihb := ih (fun y hy => h y (by simp [hy]))
    have hx := h x (by simp)
    have e : netL (b ++ [x]) = netStep (netL b) x := by rw [netL_app]; rfl
    have e2 : Alike (netL (a ++ (b ++ [x]))) (netL (a ++ (netL b ++ [x]))) := by
      rw [← List.append_assoc, ← List.append_assoc, netL_app (a ++ b), netL_app (a ++ netL b)]
      exact alike_fold ihb.symm [x]
    refine Alike.trans ?_ e2.symm
    rw [e]
    rcases step_split (netL b) x with ⟨_, h2⟩ | ⟨l1, l2, h1, h2, _, h4⟩
    · rw [h2]; exact Alike.refl _
    · rw [h4, h1]
      have m := net_move (a ++ l1 ++ [undoW x]) l2 [] h2
      have g := net_pair (a ++ l1) l2 (x := undoW x) (by rw [hx])
      rw [hx] at g
      simp only [List.append_assoc, List.cons_append, List.nil_append, List.append_nil] at m g ⊢
      exact (m.trans g).symm
/-! ### the words -/
end Go.Proofs.Ytnjenggijmbhcaa
/-
  Plain law of matching two orders of the same lace: what always takes the first work that is ready finds each; and words and sheets that stay valid. No program in sight.
-/
namespace Go.Proofs.Ytnjenggijmbhcaa
theorem first_split {α : Type} (p : α → Bool) (l : List α) (h : ∃ z ∈ l, p z = true) : ∃ l1 z l2, l = l1 ++ z :: l2 ∧ p z = true ∧ ∀ y ∈ l1, p y = false := by
  induction l with
  | nil => obtain ⟨z, hz, _⟩ := h; cases hz
  | cons x l ih =>
    cases hx : p x with
    | true => exact ⟨[], x, l, rfl, hx, fun y hy => by cases hy⟩
    | false =>
      obtain ⟨l1, z, l2, h1, h2, h3⟩ := ih (by
        obtain ⟨z, hz, hp⟩ := h
        rcases List.mem_cons.1 hz with e | hz
        · rw [e, hx] at hp; cases hp
        · exact ⟨z, hz, hp⟩)
      refine ⟨x :: l1, z, l2, by rw [h1]; rfl, h2, fun y hy => ?_⟩
      rcases List.mem_cons.1 hy with e | hy
      · rw [e]; exact hx
      · exact h3 y hy
theorem alike_cancel {l1 l2 b : List Wk} {x : Wk} (h : Alike (l1 ++ x :: l2) (x :: b)) (hf : Free l1 x.at_) : Alike (l1 ++ l2) b := fun i => by
  have := h i
  rw [proj_app, proj_cons, proj_cons] at this
  rw [proj_app]
  cases hi : atp i x with
  | true =>
    rw [hi, proj_free hf hi] at this
    rw [proj_free hf hi]
    simpa using this
  | false => rw [hi] at this; simpa using this
/-- what comes first in one order is ready in the other -/
theorem alike_first {l1 l2 b : List Wk} {x z : Wk} (h : Alike (l1 ++ z :: l2) (x :: b)) (hf : Free l1 x.at_) (hz : touch z.at_ x.at_ = true) : z = x := by
  rcases touch_atp hz with hi | hi
  · have := h (x.at_ - 1)
    rw [proj_app, proj_cons, proj_cons, if_pos hi, if_pos (atp_self' x), proj_free hf (atp_self' x)] at this
    simp at this; exact this.1
  · have := h x.at_
    rw [proj_app, proj_cons, proj_cons, if_pos hi, if_pos (atp_self x), proj_free hf (atp_self x)] at this
    simp at this; exact this.1
theorem alike_mem {u b : List Wk} {x : Wk} (h : Alike u (x :: b)) : x ∈ u := by
  have := h x.at_
  rw [proj_cons, if_pos (atp_self x)] at this
  have : x ∈ proj x.at_ u := by rw [this]; simp
  exact (List.mem_filter.1 this).1
theorem alike_split {u b : List Wk} {x : Wk} (h : Alike u (x :: b)) : ∃ l1 l2, u = l1 ++ x :: l2 ∧ Free l1 x.at_ ∧ Alike (l1 ++ l2) b := by
  obtain ⟨l1, z, l2, h1, h2, h3⟩ := first_split (fun z => touch z.at_ x.at_) u ⟨x, alike_mem h, touch_self _⟩
  rw [h1] at h
  obtain rfl := alike_first h h3 h2
  exact ⟨l1, l2, h1, h3, alike_cancel h h3⟩
theorem alike_len {u v : List Wk} (h : Alike u v) : u.length = v.length := by
  induction v generalizing u with
  | nil => rw [alike_nil h]
  | cons x b ih =>
    obtain ⟨l1, l2, h1, _, h3⟩ := alike_split h
    have := ih h3
    rw [h1]; simp at this ⊢; omega
/-! ### the search as the program does it -/
def upd (D : Nat → Bool) (i : Nat) : Nat → Bool := fun k => k == i || D k
/-- what is not done of the first n works -/
def rem (a : List Wk) (D : Nat → Bool) : Nat → List Wk
  | 0 => []
  | n + 1 => rem a D n ++ (if D n then [] else (a[n]?).toList)
def rdyTo (a : List Wk) (D : Nat → Bool) (i : Nat) : Nat → Bool
  | 0 => true
  | k + 1 => rdyTo a D i k && (D k || !touch (wat a k) (wat a i))
def rdy (a : List Wk) (D : Nat → Bool) (i : Nat) : Bool := rdyTo a D i i && !D i
def fndTo (a : List Wk) (D : Nat → Bool) (x : Wk) : Nat → Option Nat
  | 0 => none
  | i + 1 => match fndTo a D x i with
    | some j => some j
    | none => if a[i]? = some x ∧ rdy a D i = true then some i else none
def mat (a : List Wk) (D : Nat → Bool) : List Wk → Bool
  | [] => true
  | x :: b => match fndTo a D x a.length with
    | some i => mat a (upd D i) b
    | none => false
theorem rem_upd (a : List Wk) (D : Nat → Bool) (i n : Nat) (h : n ≤ i) : rem a (upd D i) n = rem a D n := by
  induction n with
  | zero => rfl
  | succ n ih =>
    unfold rem
    have : upd D i n = D n := by unfold upd; simp; omega
    rw [ih (by omega), this]
theorem rem_split (a : List Wk) (D : Nat → Bool) {i : Nat} {x : Wk} (hx : a[i]? = some x) (hd : D i = false) : ∀ n, i < n → ∃ r, rem a D n = rem a D i ++ x :: r ∧ rem a (upd D i) n = rem a D i ++ r := fun n h => by
  induction n with
  | zero => omega
  | succ n ih =>
    rcases Nat.lt_or_ge i n with hi | hi
    · obtain ⟨r, h1, h2⟩ := ih hi
      have : upd D i n = D n := by unfold upd; simp; omega
      refine ⟨r ++ (if D n then [] else (a[n]?).toList), ?_, ?_⟩
      · show rem a D n ++ _ = _
        rw [h1]; simp
      · show rem a (upd D i) n ++ _ = _
        rw [h2, this]; simp
    · obtain rfl : i = n := by omega
      refine ⟨[], ?_, ?_⟩
      · show rem a D i ++ _ = _
        rw [hd, hx]; simp
      · show rem a (upd D i) i ++ _ = _
        rw [rem_upd _ _ _ _ (Nat.le_refl _)]
        have : upd D i i = true := by unfold upd; simp
        rw [this]; simp
theorem rem_mem {a : List Wk} {D : Nat → Bool} {n : Nat} {z : Wk} : z ∈ rem a D n ↔ ∃ k, k < n ∧ D k = false ∧ a[k]? = some z := by
  induction n with
  | zero => simp [rem]
  | succ n ih =>
    unfold rem
    rw [List.mem_append, ih]
    constructor
    · rintro (⟨k, h1, h2, h3⟩ | h)
      · exact ⟨k, by omega, h2, h3⟩
      · cases hd : D n with
        | true => rw [hd] at h; simp at h
        | false => rw [hd] at h; simp at h; exact ⟨n, by omega, hd, h⟩
    · rintro ⟨k, h1, h2, h3⟩
      rcases Nat.lt_or_ge k n with hk | hk
      · exact .inl ⟨k, hk, h2, h3⟩
      · obtain rfl : k = n := by omega
        right; rw [h2, h3]; simp
theorem rdyTo_iff (a : List Wk) (D : Nat → Bool) (i : Nat) : ∀ k, rdyTo a D i k = true ↔ ∀ j, j < k → D j = false → touch (wat a j) (wat a i) = false := fun k => by
  induction k with
  | zero => simp [rdyTo]
  | succ k ih =>
    unfold rdyTo
    rw [Bool.and_eq_true, ih, Bool.or_eq_true]
    constructor
    · rintro ⟨h1, h2⟩ j hj hd
      rcases Nat.lt_or_ge j k with hk | hk
      · exact h1 j hk hd
      · obtain rfl : j = k := by omega
        rcases h2 with h2 | h2
        · rw [hd] at h2; cases h2
        · simpa using h2
    · intro h
      refine ⟨fun j hj => h j (by omega), ?_⟩
      cases hd : D k with
      | true => exact .inl rfl
      | false => right; rw [h k (by omega) hd]; rfl
theorem rdy_iff {a : List Wk} {D : Nat → Bool} {i : Nat} {x : Wk} (hx : a[i]? = some x) (hi : i ≤ a.length) : rdy a D i = true ↔ D i = false ∧ Free (rem a D i) x.at_ := by
  unfold rdy
  rw [Bool.and_eq_true, rdyTo_iff, wat_get hx]
  constructor
  · rintro ⟨h1, h2⟩
    refine ⟨by simpa using h2, fun z hz => ?_⟩
    obtain ⟨k, h3, h4, h5⟩ := rem_mem.1 hz
    have := h1 k h3 h4
    rwa [wat_get h5] at this
  · rintro ⟨h1, h2⟩
    refine ⟨fun j hj hd => ?_, by simpa using h1⟩
    obtain ⟨z, hz⟩ := get_of_lt (l := a) (k := j) (by omega)
    rw [wat_get hz]
    exact h2 z (rem_mem.2 ⟨j, hj, hd, hz⟩)
theorem fndTo_some {a : List Wk} {D : Nat → Bool} {x : Wk} {i : Nat} : ∀ n, fndTo a D x n = some i → i < n ∧ a[i]? = some x ∧ rdy a D i = true := fun n h => by
  induction n with
  | zero => cases h
  | succ n ih =>
    unfold fndTo at h
    cases hf : fndTo a D x n with
    | some j =>
      rw [hf] at h
      injection h with h
      have := ih (by rw [hf, h])
      exact ⟨by omega, this.2⟩
    | none =>
      rw [hf] at h
      simp only at h
      split at h
      · rename_i hc
        injection h with h
        subst h
        exact ⟨by omega, hc⟩
      · cases h
theorem fndTo_none {a : List Wk} {D : Nat → Bool} {x : Wk} : ∀ n, fndTo a D x n = none → ∀ i, i < n → ¬ (a[i]? = some x ∧ rdy a D i = true) := fun n h => by
  induction n with
  | zero => intro i hi; omega
  | succ n ih =>
    intro i hi
    unfold fndTo at h
    cases hf : fndTo a D x n with
    | some j => rw [hf] at h; cases h
    | none =>
      rw [hf] at h
      simp only at h
      split at h
      · cases h
      · rename_i hc
        rcases Nat.lt_or_ge i n with hk | hk
        · exact ih hf i hk
        · obtain rfl : i = n := by omega
          exact hc
theorem least_of (P : Nat → Prop) (h : ∃ k, P k) : ∃ m, P m ∧ ∀ j, j < m → ¬ P j := by
  obtain ⟨k, hk⟩ := h
  induction k using Nat.strongRecOn with
  | _ k ih =>
    by_cases hx : ∃ j, j < k ∧ P j
    · obtain ⟨j, h1, h2⟩ := hx
      exact ih j h1 h2
    · exact ⟨k, hk, fun j hj hp => hx ⟨j, hj, hp⟩⟩
theorem mat_rem {a : List Wk} : ∀ (b : List Wk) (D : Nat → Bool), Alike (rem a D a.length) b → mat a D b = true := fun b => by
  induction b with
  | nil => intro D _; rfl
  | cons x b ih =>
    intro D h
    unfold mat
    cases hf : fndTo a D x a.length with
    | some i =>
      obtain ⟨h1, h2, h3⟩ := fndTo_some _ hf
      obtain ⟨h4, h5⟩ := (rdy_iff h2 (by omega)).1 h3
      obtain ⟨r, h6, h7⟩ := rem_split a D h2 h4 a.length h1
      rw [h6] at h
      refine ih _ ?_
      rw [h7]
      exact alike_cancel h h5
    | none =>
      exfalso
      obtain ⟨k, h1, h2, h3⟩ := rem_mem.1 (alike_mem h)
      have ex : ∃ i, i < a.length ∧ D i = false ∧ ∃ z, a[i]? = some z ∧ touch z.at_ x.at_ = true := ⟨k, h1, h2, x, h3, touch_self _⟩
      obtain ⟨m, hm, hmin⟩ := least_of _ ex
      obtain ⟨g1, g2, z, g3, g4⟩ := hm
      have hfree : Free (rem a D m) x.at_ := fun y hy => by
        obtain ⟨j, j1, j2, j3⟩ := rem_mem.1 hy
        cases ht : touch y.at_ x.at_ with
        | false => rfl
        | true => exact (hmin j j1 ⟨by omega, j2, y, j3, ht⟩).elim
      obtain ⟨r, h6, _⟩ := rem_split a D g3 g2 a.length g1
      rw [h6] at h
      obtain rfl := alike_first h hfree g4
      exact fndTo_none _ hf m g1 ⟨g3, (rdy_iff g3 (by omega)).2 ⟨g2, hfree⟩⟩
theorem rem_none (a : List Wk) : ∀ n, n ≤ a.length → rem a (fun _ => false) n = a.take n := fun n h => by
  induction n with
  | zero => rfl
  | succ n ih =>
    unfold rem
    rw [ih (by omega), List.take_add_one]; simp
theorem fndTo_first {a : List Wk} {D : Nat → Bool} {x : Wk} {j : Nat} : ∀ n, fndTo a D x n = some j → fndTo a D x j = none := fun n h => by
  induction n with
  | zero => cases h
  | succ n ih =>
    cases hf : fndTo a D x n with
    | some k =>
      have h' := h
      unfold fndTo at h'
      rw [hf] at h'
      injection h' with h'
      exact ih (by rw [hf, h'])
    | none =>
      have h' := h
      unfold fndTo at h'
      rw [hf] at h'
      simp only at h'
      split at h'
      · injection h' with h'
        rw [← h']; exact hf
      · cases h'
theorem mat_step {a b : List Wk} {D : Nat → Bool} {y : Nat} {x : Wk} (h : mat a D (b.drop y) = true) (hx : b[y]? = some x) :
    ∃ j, j < a.length ∧ a[j]? = some x ∧ rdy a D j = true ∧ (∀ i, i < j → a[i]? = some x → rdy a D i = false) ∧ mat a (upd D j) (b.drop (y + 1)) = true := by
  have e : b.drop y = x :: b.drop (y + 1) := by
    have hl := lt_of_get hx
    rw [List.drop_eq_getElem_cons hl]
    rw [List.getElem?_eq_getElem hl] at hx
    injection hx with hx
    rw [hx]
  rw [e] at h
  unfold mat at h
  cases hf : fndTo a D x a.length with
  | none => rw [hf] at h; cases h
  | some j =>
    rw [hf] at h
    obtain ⟨h1, h2, h3⟩ := fndTo_some _ hf
    refine ⟨j, h1, h2, h3, fun i hi hx' => ?_, h⟩
    have := fndTo_none _ (fndTo_first _ hf) i hi
    cases hr : rdy a D i with
    | false => rfl
    | true => exact (this ⟨hx', hr⟩).elim
/-- two orders of the same lace match -/
theorem mat_alike {a b : List Wk} (h : Alike a b) : mat a (fun _ => false) b = true :=
  mat_rem b _ (by rw [rem_none _ _ (Nat.le_refl _), List.take_length]; exact h)
/-! ### words and sheets that stay valid -/
theorem SOk.zero {p : Int} {ws : List Wk} (h : SOk p ws) : schk p ws = 0 := by
  unfold schk
  have h1 : ws.any (fun x => decide (16 < x.word.size)) = false := by
    rw [List.any_eq_false]; intro x hx; have := h.short x hx; simp; omega
  have h2 : ws.any (wkBad p) = false := by
    rw [List.any_eq_false]; intro x hx; rw [h.good x hx]; simp
  have h3 : ws.all (fun x => wOk x.word) = true := by
    rw [List.all_eq_true]; exact h.form
  have := h.le; have := h.ge; have := h.len
  rw [if_neg (by rw [h1]; simp; omega), if_neg (by rw [h2]; simp; omega), if_pos h3]
theorem SOk.sub {p : Int} {u v : List Wk} (h : SOk p u) (hl : v.length ≤ 400) (hm : ∀ x ∈ v, x ∈ u) : SOk p v :=
  ⟨h.le, h.ge, hl, fun x hx => h.short x (hm x hx), fun x hx => h.good x (hm x hx), fun x hx => h.form x (hm x hx)⟩
theorem netL_mem {ws : List Wk} {y : Wk} (h : y ∈ netL ws) : y ∈ ws := netTo_mem h
theorem netL_len (ws : List Wk) : (netL ws).length ≤ ws.length := netTo_len ws ws.length
theorem SOk.net {p : Int} {u : List Wk} (h : SOk p u) : SOk p (netL u) := h.sub (Nat.le_trans (netL_len u) h.len) (fun _ hx => netL_mem hx)
theorem img_img : ∀ c ∈ letters, img undoes (img undoes c) = c := by decide
theorem img_let : ∀ c ∈ letters, img undoes c ∈ letters := by decide
theorem wOk_mem {s : ByteArray} (h : wOk s = true) : ∀ c ∈ s.data.toList, c ∈ letters := fun c hc => by
  unfold wOk at h
  have := List.all_eq_true.1 h c hc
  unfold isLet at this
  simpa using this
theorem mem_wOk {s : ByteArray} (h : ∀ c ∈ s.data.toList, c ∈ letters) : wOk s = true := by
  unfold wOk
  rw [List.all_eq_true]
  intro c hc
  have := h c hc
  unfold isLet
  simpa using this
theorem invW_eq {s : ByteArray} (h1 : s.size ≤ 16) (h2 : wOk s = true) : invW s = ⟨(s.data.toList.map (img undoes)).reverse.toArray⟩ := by unfold invW; rw [if_pos (wchk_ok h1 h2)]
theorem invW_size {s : ByteArray} (h1 : s.size ≤ 16) (h2 : wOk s = true) : (invW s).size = s.size := by
  rw [← str_len, ← str_len, invW_eq h1 h2, List.length_reverse, List.length_map]
theorem invW_ok {s : ByteArray} (h1 : s.size ≤ 16) (h2 : wOk s = true) : (invW s).size ≤ 16 ∧ wOk (invW s) = true := by
  refine ⟨by rw [invW_size h1 h2]; exact h1, mem_wOk fun c hc => ?_⟩
  · rw [invW_eq h1 h2] at hc
    simp at hc
    obtain ⟨d, hd, rfl⟩ := hc
    exact img_let d (wOk_mem h2 d (by simpa using hd))
theorem invW_inv {s : ByteArray} (h1 : s.size ≤ 16) (h2 : wOk s = true) : invW (invW s) = s := by
  rw [invW_eq (invW_ok h1 h2).1 (invW_ok h1 h2).2, invW_eq h1 h2]
  apply ba_ext
  simp only [List.map_reverse, List.reverse_reverse, List.map_map]
  have : ∀ c ∈ s.data.toList, (img undoes ∘ img undoes) c = c := fun c hc => img_img c (wOk_mem h2 c hc)
  rw [List.map_congr_left this]; simp
theorem SOk.back {p : Int} {u : List Wk} (h : SOk p u) : ∀ x ∈ u, undoW (undoW x) = x := fun x hx => by
  unfold undoW
  rw [invW_inv (h.short x hx) (h.form x hx)]
theorem wkBad_undo {p : Int} {x : Wk} (h : wkBad p x = false) (hs : x.word.size ≤ 16) (ho : wOk x.word = true) : wkBad p (undoW x) = false := by
  obtain ⟨h1, h2, h3, h4⟩ := bad_at h
  have e : (invW x.word).size = x.word.size := invW_size hs ho
  unfold wkBad undoW
  simp only [Bool.or_eq_false_iff, Bool.and_eq_false_iff, decide_eq_false_iff_not, bne_eq_false_iff_eq, beq_eq_false_iff_ne]
  refine ⟨⟨⟨h1, by omega⟩, by omega⟩, ?_⟩
  by_cases hk : x.kind = 2
  · right; rw [e]; exact h4 hk
  · left; exact hk
theorem SOk.undo {p : Int} {u : List Wk} (h : SOk p u) : SOk p (u.map undoW) :=
  ⟨h.le, h.ge, by rw [List.length_map]; exact h.len, fun x hx => by
    obtain ⟨y, hy, rfl⟩ := List.mem_map.1 hx; exact (invW_ok (h.short y hy) (h.form y hy)).1, fun x hx => by
    obtain ⟨y, hy, rfl⟩ := List.mem_map.1 hx; exact wkBad_undo (h.good y hy) (h.short y hy) (h.form y hy), fun x hx => by
    obtain ⟨y, hy, rfl⟩ := List.mem_map.1 hx; exact (invW_ok (h.short y hy) (h.form y hy)).2⟩
theorem SOk.app {p : Int} {u v : List Wk} (h : SOk p u) (k : SOk p v) (hl : (u ++ v).length ≤ 400) : SOk p (u ++ v) :=
  ⟨h.le, h.ge, hl, fun x hx => (List.mem_append.1 hx).elim (h.short x) (k.short x), fun x hx => (List.mem_append.1 hx).elim (h.good x) (k.good x), fun x hx => (List.mem_append.1 hx).elim (h.form x) (k.form x)⟩
end Go.Proofs.Ytnjenggijmbhcaa
