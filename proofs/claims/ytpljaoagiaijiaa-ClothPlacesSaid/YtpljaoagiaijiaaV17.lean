/-
  Contract of torchonref03: Places.
-/
import Derived.Test.YtpljaoagiaijiaaV5
import Derived.Test.YtpljaoagiaijiaaV12
import Derived.Test.YtpljaoagiaijiaaV13
import Derived.Test.YtpljaoagiaijiaaV16
import Derived.Deep.Cut
import Derived.Deep.CutRange
namespace Go.Proofs.Ytpljaoagiaijiaa
open Go.RowKit
theorem crW_memW (bs : List UInt8) : ∀ k, ∀ n ∈ crW bs k, n ≠ 0 ∧ -3 ≤ n ∧ n ≤ 3
  | 0, n, h => by cases h
  | k + 1, n, h => by
    cases hc : bs[k]? with
    | none =>
      have e : crW bs (k + 1) = crW bs k := by
        show (match bs[k]? with | some c => crW bs k ++ crT (twV c) 3 | none => crW bs k) = _
        rw [hc]
      rw [e] at h; exact crW_memW bs k n h
    | some c =>
      rw [crW_succ hc] at h
      rcases List.mem_append.1 h with h | h
      · exact crW_memW bs k n h
      · exact crL_mem c n h
def plTo (ns : List Int) (k : Nat) : List Int := (ns.take k).foldl plSw [1, 2, 3, 4]
theorem plTo_all (ns : List Int) : plTo ns ns.length = plF ns := by unfold plTo plF; rw [List.take_length]
theorem plTo_succ {ns : List Int} {k : Nat} {n : Int} (h : ns[k]? = some n) : plTo ns (k + 1) = plSw (plTo ns k) n := by
  unfold plTo
  rw [List.take_add_one, h, List.foldl_append]; rfl
theorem plSw_len (p : List Int) (n : Int) : (plSw p n).length = p.length := by unfold plSw; rw [List.length_set, List.length_set]
theorem plTo_len (ns : List Int) : ∀ k, k ≤ ns.length → (plTo ns k).length = 4
  | 0, _ => rfl
  | k + 1, hk => by
    obtain ⟨n, hn⟩ := get_of_lt (l := ns) (k := k) (by omega)
    rw [plTo_succ hn, plSw_len]
    exact plTo_len ns k (by omega)
set_option maxRecDepth 100000 in
set_option maxHeartbeats 8000000 in
theorem places29 (s : ByteArray) (w : World) (hs : s.size ≤ 16) (hok : wOk s = true) :
    Calls Try.prog 29 #[.string s] w fun e w' => ∃ A c, e = .returned (.tuple #[.slice A 4 c, .int .i64 0]) ∧ w'.ownsRow w.heap.size 3 1 (.slice A 4 c) 4 ((plF (crW s.data.toList s.size)).map vInt) ∧ Below w.heap.size w w' := by
  have C1 := Lib.hid (check03 s w (by omega))
  rw [wchk_ok hs hok] at C1
  have C2 := Lib.hid (fun (W : World) => crossings53 s W hs hok)
  have HM := Lib.hid (crW_memW s.data.toList s.size)
  have hle := crW_len3 s.data.toList s.size
  generalize crW s.data.toList s.size = ns at *
  clear hok
  go_enter Try.func29, Try.ntmps29
  go_wp2_with fail
  refine C1.out.mono ?_
  rintro e w' ⟨rfl, rfl⟩
  go_wp2_with fail
  refine (C2.out _).mono ?_
  rintro e w2 ⟨A2, n2, c2, rfl, r2, l2, hb2⟩
  have O1 : (w.alloc (.cells #[.int .i64 1, .int .i64 2, .int .i64 3, .int .i64 4] 3)).ownsRow w.heap.size 3 1 (.slice (some ⟨w.heap.size, 0, none⟩) 4 4) 4 ((plTo ns 0).map vInt) := World.ownsRow_lit w #[.int .i64 1, .int .i64 2, .int .i64 3, .int .i64 4] 4 (Nat.le_refl _) (by unfold maxLen; omega) rfl
  have HO2 := Lib.hid (own_below O1 hb2)
  have HN2 := Lib.hid (own_mono r2 (show w.heap.size + 1 ≤ _ by simp))
  have B2 : Below w.heap.size w w2 := bvia (by go_grown) hb2
  obtain ⟨g, hg⟩ : ∃ g, g = w.heap.size := ⟨_, rfl⟩
  rw [← hg] at HN2 HO2
  rw [← hg]
  have HL := Lib.hid l2
  have hn2 : n2 ≤ 48 := by omega
  clear O1 r2 hb2 l2 hle C1 C2
  have HGW := Lib.hid hg
  clear hg
  go_wp2
  go_loopw [7] (fun i wr => ∃ k : Nat, k ≤ n2 ∧ i = .int .i64 (k : Int) ∧ Hid (wr.ownsRow g 3 1 (.slice (some ⟨g, 0, none⟩) 4 4) 4 ((plTo ns k).map vInt)) ∧ Hid (wr.ownsRow (g + 1) 3 1 (.slice A2 n2 c2) n2 (ns.map vInt)) ∧ Below w.heap.size w wr) (fun i _ => n2 - (intOf i).toNat)
  case atStart => exact ⟨0, Nat.zero_le _, rfl, HO2, HN2, B2⟩
  case round =>
    clear HO2 HN2 B2
    obtain ⟨k, hk, rfl, HO, HN, hb⟩ := hrel
    obtain ⟨wo, rfl⟩ : ∃ wo : World, wo = wr := ⟨_, rfl⟩
    by_cases hlt : k < n2
    · obtain ⟨n, hnk⟩ := get_of_lt (l := ns) (k := k) (by rw [HL.out]; exact hlt)
      obtain ⟨u, hu2, hu3, hu4⟩ := absI_sub (HM.out n (mem_of_get hnk))
      have hpl := plTo_len ns k (by rw [HL.out]; omega)
      obtain ⟨a, ha⟩ := get_of_lt (l := plTo ns k) (k := u) (by omega)
      obtain ⟨bv, hb'⟩ := get_of_lt (l := plTo ns k) (k := u + 1) (by omega)
      have HS : Hid (plTo ns (k + 1) = ((plTo ns k).set u bv).set (u + 1) a) := by
        show _ = _
        rw [plTo_succ hnk]
        unfold plSw
        rw [hu4, List.getD_eq_getElem?_getD, List.getD_eq_getElem?_getD, ha, hb']; rfl
      have hn9 := HM.out n (mem_of_get hnk)
      obtain ⟨bn, hA2, hbn, hbnw, hcn⟩ := own_at HN.out (j := k) (u := vInt n) (by rw [List.getElem?_map, hnk]; rfl)
      subst hA2
      have r0 : wo.cell? ⟨bn, k, none⟩ = some (.int .i64 n) := hcn
      have kn : (k : Int) < (n2 : Int) := by omega
      have i7 : IntKind.i64.wrap (-n) = -n := IntWalk.i64_in _ (by omega)
      have HA := Lib.hid ha
      have HB := Lib.hid hb'
      clear hnk hpl ha hb' hcn hu4
      go_upto_region 9 with (fail)
      go_cut [8] from 17 to 49 (fun v wx => v = .int .i64 (u : Int) ∧ Below wo.heap.size wo wx)
      case first =>
        have I7 := Lib.hid i7
        clear i7
        by_cases hneg : n < 0
        · have hyu : -n = (u : Int) + 1 := by have h1 := hu3; unfold absI at h1; split at h1 <;> omega
          have I8 : Hid (Value.int IntKind.i64 (IntKind.i64.wrap (IntKind.i64.wrap (-n) - 1)) = .int .i64 (u : Int)) := by show _ = _; rw [I7.out, hyu]; congr 1; exact (IntWalk.i64_in _ (by omega)).trans (by omega)
          have n1 : n < IntKind.i64.wrap (-n) := by rw [I7.out]; omega
          have n2' : ¬ IntKind.i64.wrap (-n) < n := by rw [I7.out]; omega
          clear hu3 hyu hn9 hneg
          go_region_held3 (fun W => W.cell? ⟨bn, k, none⟩ = some (.int .i64 n)) (go_keep) (fail)
          all_goals (try (exfalso; omega))
          go_wp2
          go_meet
          case rel => exact ⟨I8.out, Below.drew (Below.refl _ _)⟩
        · have hyu : n = (u : Int) + 1 := by have h1 := hu3; unfold absI at h1; split at h1 <;> omega
          have I8 : Hid (Value.int IntKind.i64 (IntKind.i64.wrap (n - 1)) = .int .i64 (u : Int)) := by show _ = _; rw [hyu]; congr 1; exact (IntWalk.i64_in _ (by omega)).trans (by omega)
          have n1 : IntKind.i64.wrap (-n) < n := by rw [I7.out]; omega
          have n2' : ¬ n < IntKind.i64.wrap (-n) := by rw [I7.out]; omega
          clear hu3 hyu hn9 hneg
          go_region_held3 (fun W => W.cell? ⟨bn, k, none⟩ = some (.int .i64 n)) (go_keep) (fail)
          all_goals (try (exfalso; omega))
          go_wp2
          go_meet
          case rel => exact ⟨I8.out, Below.drew (Below.refl _ _)⟩
      case rest =>
        obtain ⟨rfl, hb8⟩ := hcut
        obtain ⟨W8, rfl⟩ : ∃ W8 : World, W8 = wc := ⟨_, rfl⟩
        have HO8 := Lib.hid (own_below HO.out hb8)
        have HN8 := Lib.hid (own_below HN.out hb8)
        have B8 : Below w.heap.size w W8 := bvia hb hb8
        have ya : W8.cell? ⟨g, u, none⟩ = some (.int .i64 a) := (HO8.out.cellAt u (by omega)).trans (by rw [List.getElem?_map, HA.out]; rfl)
        have yb : W8.cell? ⟨g, u + 1, none⟩ = some (.int .i64 bv) := (HO8.out.cellAt (u + 1) (by omega)).trans (by rw [List.getElem?_map, HB.out]; rfl)
        have ql := (HO8.out.lt g rfl).2
        have j1 : IntKind.i64.wrap ((u : Int) + 1) = (u : Int) + 1 := IntWalk.i64_in _ (by omega)
        have j2 : ((u : Int) + 1).toNat = u + 1 := by omega
        have j3 : (0 : Int) ≤ (u : Int) + 1 := by omega
        have j4 : (u : Int) + 1 < 4 := by omega
        have j5 : (u : Int) < 4 := by omega
        have j6 : u < 4 := by omega
        clear HO HN hb hb8 r0 hu3 hn9 i7 hbnw
        go_upto_region 10 with (fail)
        refine wp_region_noPanic ?_
        refine wp_region_B (fun b w' => g < w'.heap.size ∧ (b = false → w'.cell? ⟨g, u, none⟩ = some (.int .i64 a) ∧ w'.cell? ⟨g, u + 1, none⟩ = some (.int .i64 bv))) 15 (by kernel_rfl) ?_
        have hSSp : (fun b w' => g < w'.heap.size ∧ (b = false → w'.cell? ⟨g, u, none⟩ = some (.int .i64 a) ∧ w'.cell? ⟨g, u + 1, none⟩ = some (.int .i64 bv))) false (W8.drew) := ⟨ql, fun _ => ⟨ya, yb⟩⟩
        refine wpAnyB_take (i := 0) (oi := _) (v := ?vvp1) (fun w' => g < w'.heap.size) rfl (by kernel_rfl) (by kernel_rfl) (by kernel_rfl) (by kernel_rfl) (by rfl) (fun _ h => h.1) (.inl fun _ h => h.1) (fun _ _ _ h => h) (.inl ⟨by rfl, ?hyp1⟩) hSSp ?_
        case hyp1 =>
          intro w' hSw
          try dsimp only at hSw
          go_simp
          all_goals with_reducible rfl
        try simp only [Act.put, List.setIfInBounds_toArray, List.set_cons_zero, List.set_cons_succ]
        refine wpAnyB_take (i := 1) (oi := _) (v := ?vvp2) (fun w' => g < w'.heap.size) rfl (by kernel_rfl) (by kernel_rfl) (by kernel_rfl) (by kernel_rfl) (by rfl) (fun _ h => h.1) (.inl fun _ h => h.1) (fun _ _ _ h => h) (.inl ⟨by rfl, ?hyp2⟩) hSSp ?_
        case hyp2 =>
          intro w' hSw
          try dsimp only at hSw
          go_simp
          all_goals with_reducible rfl
        try simp only [Act.put, List.setIfInBounds_toArray, List.set_cons_zero, List.set_cons_succ]
        refine wpAnyB_take (i := 2) (oi := _) (v := ?vvp3) (fun w' => g < w'.heap.size) rfl (by kernel_rfl) (by kernel_rfl) (by kernel_rfl) (by kernel_rfl) (by rfl) (fun _ h => h.1) (.inl fun _ h => h.1) (fun _ _ _ h => h) (.inl ⟨by rfl, ?hyp3⟩) hSSp ?_
        case hyp3 =>
          intro w' hSw
          try dsimp only at hSw
          go_simp
          all_goals with_reducible rfl
        try simp only [Act.put, List.setIfInBounds_toArray, List.set_cons_zero, List.set_cons_succ]
        refine wpAnyB_take (i := 3) (oi := _) (v := ?vvp4) (fun w' => g < w'.heap.size) rfl (by kernel_rfl) (by kernel_rfl) (by kernel_rfl) (by kernel_rfl) (by rfl) (fun _ h => h.1) (.inl fun _ h => h.1) (fun _ _ _ h => h) (.inl ⟨by rfl, ?hyp4⟩) hSSp ?_
        case hyp4 =>
          intro w' hSw
          try dsimp only at hSw
          go_simp
          all_goals with_reducible rfl
        try simp only [Act.put, List.setIfInBounds_toArray, List.set_cons_zero, List.set_cons_succ]
        refine wpAnyB_take (i := 4) (oi := _) (v := ?vvp5) (fun w' => g < w'.heap.size) rfl (by kernel_rfl) (by kernel_rfl) (by kernel_rfl) (by kernel_rfl) (by rfl) (fun _ h => h.1) (.inl fun _ h => h.1) (fun _ _ _ h => h) (.inl ⟨by rfl, ?hyp5⟩) hSSp ?_
        case hyp5 =>
          intro w' hSw
          try dsimp only at hSw
          go_simp
          all_goals with_reducible rfl
        try simp only [Act.put, List.setIfInBounds_toArray, List.set_cons_zero, List.set_cons_succ]
        refine wpAnyB_take (i := 5) (oi := _) (v := ?vvp6) (fun w' => g < w'.heap.size) rfl (by kernel_rfl) (by kernel_rfl) (by kernel_rfl) (by kernel_rfl) (by rfl) (fun _ h => h.1) (.inl fun _ h => h.1) (fun _ _ _ h => h) (.inl ⟨by rfl, ?hyp6⟩) hSSp ?_
        case hyp6 =>
          intro w' hSw
          try dsimp only at hSw
          go_simp
          all_goals with_reducible rfl
        try simp only [Act.put, List.setIfInBounds_toArray, List.set_cons_zero, List.set_cons_succ]
        refine wpAnyB_take (i := 6) (oi := _) (v := ?vvp7) (fun w' => g < w'.heap.size) rfl (by kernel_rfl) (by kernel_rfl) (by kernel_rfl) (by kernel_rfl) (by rfl) (fun _ h => h.1) (.inl fun _ h => h.1) (fun _ _ _ h => h) (.inl ⟨by rfl, ?hyp7⟩) hSSp ?_
        case hyp7 =>
          intro w' hSw
          try dsimp only at hSw
          go_simp
          all_goals with_reducible rfl
        try simp only [Act.put, List.setIfInBounds_toArray, List.set_cons_zero, List.set_cons_succ]
        refine wpAnyB_take (i := 7) (oi := _) (v := ?vvp8) (fun w' => g < w'.heap.size) rfl (by kernel_rfl) (by kernel_rfl) (by kernel_rfl) (by kernel_rfl) (by rfl) (fun _ h => h.1) (.inl fun _ h => h.1) (fun _ _ _ h => h) (.inl ⟨by rfl, ?hyp8⟩) hSSp ?_
        case hyp8 =>
          intro w' hSw
          try dsimp only at hSw
          go_simp
          all_goals with_reducible rfl
        try simp only [Act.put, List.setIfInBounds_toArray, List.set_cons_zero, List.set_cons_succ]
        refine wpAnyB_take (i := 8) (oi := _) (v := ?vvp9) (fun w' => g < w'.heap.size) rfl (by kernel_rfl) (by kernel_rfl) (by kernel_rfl) (by kernel_rfl) (by rfl) (fun _ h => h.1) (.inl fun _ h => h.1) (fun _ _ _ h => h) (.inl ⟨by rfl, ?hyp9⟩) hSSp ?_
        case hyp9 =>
          intro w' hSw
          try dsimp only at hSw
          go_simp
          all_goals with_reducible rfl
        try simp only [Act.put, List.setIfInBounds_toArray, List.set_cons_zero, List.set_cons_succ]
        refine wpAnyB_take (i := 9) (oi := _) (v := ?vvp10) (fun w' => g < w'.heap.size ∧ w'.cell? ⟨g, u, none⟩ = some (.int .i64 a) ∧ w'.cell? ⟨g, u + 1, none⟩ = some (.int .i64 bv)) rfl (by kernel_rfl) (by kernel_rfl) (by kernel_rfl) (by kernel_rfl) (by rfl) (fun _ h => ⟨h.1, h.2 rfl⟩) (.inr (by kernel_rfl)) (fun _ _ _ h => h) (.inl ⟨by rfl, ?hyp10⟩) hSSp ?_
        case hyp10 =>
          intro w' hSw
          try dsimp only at hSw
          go_simp
          all_goals with_reducible rfl
        try simp only [Act.put, List.setIfInBounds_toArray, List.set_cons_zero, List.set_cons_succ]
        refine wpAnyB_take (i := 10) (oi := _) (v := ?vvp11) (fun w' => g < w'.heap.size) rfl (by kernel_rfl) (by kernel_rfl) (by kernel_rfl) (by kernel_rfl) (by rfl) (fun _ h => h.1) (.inl fun _ h => h.1) (fun _ _ _ h => h) (.inl ⟨by rfl, ?hyp11⟩) hSSp ?_
        case hyp11 =>
          intro w' hSw
          try dsimp only at hSw
          go_simp
          all_goals with_reducible rfl
        try simp only [Act.put, List.setIfInBounds_toArray, List.set_cons_zero, List.set_cons_succ]
        refine wpAnyB_take (i := 11) (oi := _) (v := ?vvp12) (fun w' => g < w'.heap.size) rfl (by kernel_rfl) (by kernel_rfl) (by kernel_rfl) (by kernel_rfl) (by rfl) (fun _ h => h.1) (.inl fun _ h => h.1) (fun _ _ _ h => h) (.inl ⟨by rfl, ?hyp12⟩) hSSp ?_
        case hyp12 =>
          intro w' hSw
          try dsimp only at hSw
          go_simp
          all_goals with_reducible rfl
        try simp only [Act.put, List.setIfInBounds_toArray, List.set_cons_zero, List.set_cons_succ]
        refine wpAnyB_take (i := 12) (oi := _) (v := ?vvp13) (fun w' => g < w'.heap.size) rfl (by kernel_rfl) (by kernel_rfl) (by kernel_rfl) (by kernel_rfl) (by rfl) (fun _ h => h.1) (.inl fun _ h => h.1) (fun _ _ _ h => h) (.inl ⟨by rfl, ?hyp13⟩) hSSp ?_
        case hyp13 =>
          intro w' hSw
          try dsimp only at hSw
          go_simp
          all_goals with_reducible rfl
        try simp only [Act.put, List.setIfInBounds_toArray, List.set_cons_zero, List.set_cons_succ]
        refine wpAnyB_take (i := 13) (oi := _) (v := ?vvp14) (fun w' => g < w'.heap.size ∧ w'.cell? ⟨g, u, none⟩ = some (.int .i64 a) ∧ w'.cell? ⟨g, u + 1, none⟩ = some (.int .i64 bv)) rfl (by kernel_rfl) (by kernel_rfl) (by kernel_rfl) (by kernel_rfl) (by rfl) (fun _ h => ⟨h.1, h.2 rfl⟩) (.inr (by kernel_rfl)) (fun _ _ _ h => h) (.inl ⟨by rfl, ?hyp14⟩) hSSp ?_
        case hyp14 =>
          intro w' hSw
          try dsimp only at hSw
          go_simp
          all_goals with_reducible rfl
        try simp only [Act.put, List.setIfInBounds_toArray, List.set_cons_zero, List.set_cons_succ]
        refine wpAnyB_take (i := 14) (oi := _) (v := ?vvp15) (fun w' => g < w'.heap.size) rfl (by kernel_rfl) (by kernel_rfl) (by kernel_rfl) (by kernel_rfl) (by rfl) (fun _ h => h.1) (.inl fun _ h => h.1) (fun _ _ _ h => h) (.inl ⟨by rfl, ?hyp15⟩) hSSp ?_
        case hyp15 =>
          intro w' hSw
          try dsimp only at hSw
          go_simp
          all_goals with_reducible rfl
        try simp only [Act.put, List.setIfInBounds_toArray, List.set_cons_zero, List.set_cons_succ]
        refine wpAnyB_one (i := 15) true rfl (by kernel_rfl) (by kernel_rfl) ?_
        intro KK hKK
        have y0 := HO8.out.frozenAt u
        go_simp
        clear y0
        have h8 := (HO8.out.stored u (vInt bv)).1
        obtain ⟨w8, hw8⟩ : ∃ w8, w8 = W8.setCell ⟨g, u, none⟩ (vInt bv) := ⟨_, rfl⟩
        rw [← hw8] at h8
        generalize hw9 : W8.setCell ⟨g, u, none⟩ (.int .i64 bv) = w9
        obtain rfl : w8 = w9 := hw8.trans hw9
        have HW8 := Lib.hid hw8
        clear hw8 hw9
        have q8 := (h8.lt g rfl).2
        refine hKK.out _ _ ⟨q8, fun hh => by cases hh⟩ ?_
        clear hKK KK
        try simp only [Act.put, List.setIfInBounds_toArray, List.set_cons_zero, List.set_cons_succ]
        refine wpAnyB_one (i := 16) true rfl (by kernel_rfl) (by kernel_rfl) ?_
        intro KK hKK
        go_simp
        refine hKK.out _ _ ⟨q8, fun hh => by cases hh⟩ ?_
        clear hKK KK
        try simp only [Act.put, List.setIfInBounds_toArray, List.set_cons_zero, List.set_cons_succ]
        refine wpAnyB_one (i := 17) true rfl (by kernel_rfl) (by kernel_rfl) ?_
        intro KK hKK
        have y0 := h8.frozenAt (u + 1)
        have y1 : w8.cell? ⟨g, u + 1, none⟩ = some (.int .i64 bv) := (h8.cellAt (u + 1) (by omega)).trans (by rw [List.getElem?_set_ne (by omega), List.getElem?_map, HB.out]; rfl)
        go_simp
        clear y0 y1
        refine hKK.out _ _ ⟨(by simp; exact q8), fun hh => by cases hh⟩ ?_
        clear hKK KK
        try simp only [Act.put, List.setIfInBounds_toArray, List.set_cons_zero, List.set_cons_succ]
        refine wpAnyB_done (by kernel_rfl) (NoPanic.normal ?_) _
        have hO9 := (h8.stored (u + 1) (vInt a)).1
        rw [← List.map_set, ← List.map_set, ← HS.out] at hO9
        have hBB := (But.set g W8 u (vInt bv)).trans (But.set g _ (u + 1) (vInt a))
        rw [← HW8.out] at hBB
        have hN9 := hBB.own HN8.out (by intro e; have := (HN8.out.lt g e).1; omega)
        have hB9 := B8.trans (hBB.below (show w.heap.size ≤ g by rw [HGW.out]; exact Nat.le_refl _) B8.size)
        have HO9 := Lib.hid hO9
        have HN9 := Lib.hid hN9
        have HB9 := Lib.hid hB9
        clear hO9 hN9 hB9 hBB h8 HW8 q8 ya yb ql
        go_wp2
        go_roundw
        case rel => exact ⟨k + 1, by omega, by go_num, Lib.hid (by first | exact HO9.out | exact own_below HO9.out (Below.drew (Below.refl _ _))), Lib.hid (by first | exact HN9.out | exact own_below HN9.out (Below.drew (Below.refl _ _))), by first | exact HB9.out | exact HB9.out.drew⟩
        case measure => first | (simp [intOf]; done) | (simp [intOf]; omega)
    · obtain rfl : n2 = k := by omega
      have HE : Hid (plTo ns n2 = plF ns) := by
        show _ = _
        rw [← plTo_all, HL.out]
      go_wp2
      go_ret2
      exact ⟨some ⟨g, 0, none⟩, 4, rfl, by rw [← HE.out]; exact own_mono HO.out (by rw [HGW.out]; exact Nat.le_refl _), hb⟩
end Go.Proofs.Ytpljaoagiaijiaa
/-
  Rows that are filled with the numbers from 0 on; a slice of rows that are read.
-/
namespace Go.Proofs.Ytpljaoagiaijiaa
open Go.RowKit
theorem mkI17 (n : Nat) (hn : n ≤ 1000) (W : World) : (Instr.makeSlice 35 (.int .i64 (n : Int)) (.int .i64 (n : Int))).run Try.prog W = .ok (.slice (some ⟨W.heap.size, 0, none⟩) n n) (W.alloc (.cells (madeCells #[.int .i64 0] n) 3)) := by
  obtain ⟨i, hi, hz, hs, hb⟩ := info_parts infoInt
  have h := run_make (P := Try.prog) W 35 3 i (.int .i64 0) Try.underlying35 hi hz .i64 .i64 (n : Int) (n : Int) (by omega) (Int.le_refl _) (by rw [hb]; omega) (by omega)
  rw [hs] at h
  simpa [Value.cells] using h
/-- the numbers so far, and zeroes -/
def fillL (n j : Nat) : List Value := (lineL j).map vInt ++ List.replicate (n - j) (vInt 0)
theorem fillL_zero (n : Nat) : fillL n 0 = List.replicate n (.int .i64 0) := by simp [fillL, lineL]
theorem fillL_all (n : Nat) : fillL n n = (lineL n).map vInt := by simp [fillL]
theorem fillL_at {n j : Nat} (h : j < n) : (fillL n j)[j]? = some (vInt 0) := by
  unfold fillL
  have e : n - j = (n - (j + 1)) + 1 := by omega
  rw [e, List.replicate_succ, List.getElem?_append_right (by simp [lineL_len])]
  simp [lineL_len]
theorem fillL_set {n j : Nat} (h : j < n) : (fillL n j).set j (.int .i64 (j : Int)) = fillL n (j + 1) := by
  unfold fillL
  have e : n - j = (n - (j + 1)) + 1 := by omega
  rw [e, List.replicate_succ, List.set_append_right _ _ (by simp [lineL_len]), lineL_succ]
  simp [lineL_len]
theorem RdRs.up {w w' : World} {A : Option Addr} {rows : List (List Int)} (h : RdRs w w.heap.size A rows) (hb : Below w.heap.size w w') : RdRs w' w'.heap.size A rows := fun k r hr => by
  obtain ⟨b, o, h1, h2, X, nx, cx, h3, h4, h5, h6, h7⟩ := h k r hr
  exact ⟨b, o, h1, Nat.lt_of_lt_of_le h2 hb.size, X, nx, cx, (hb.cell h2).trans h3, h4.up hb, h5, h6, h7⟩
end Go.Proofs.Ytpljaoagiaijiaa
